/- A disk as it lies in the heap; the small methods. -/
import Derived.Test.YtocaihmadififaaDiskA
import Derived.Test.YtocaihmadififaaMine
import Derived.Test.YtocaihmadififaaProg
import Derived.Below
import Derived.Lib.BufferMore
import Derived.OwnWalk
import Derived.Laws.MakeOwn
import Derived.Maps.AppendAt
import Derived.Maps.RangeWalk
import Derived.Tactics
import Derived.WalkKit
import Derived.KernelRfl
import Derived.RowKit3
import Derived.RowKit
import Derived.WalkMore
import Derived.Deep.QuietTactic
import Derived.BigQuiet
import Derived.WideLaws
import Derived.Deep.DeepCutAuto
import Derived.OrdersHeld
import Derived.Test.YtocaihmadififaaWWords
import Derived.Test.YtocaihmadififaaWLast
import Derived.Test.YtocaihmadififaaWFour
import Derived.Test.YtocaihmadififaaWMore
namespace Go.Proofs.Ytocaihmadififaa.Dk
open Go.RowKit Go.Maps Go.Proofs.YtocaihmadififaaW.PrintWords Go.Proofs.YtocaihmadififaaW.PrintLast Go.Proofs.YtocaihmadififaaW.PrintMore
attribute [local go_sem] max2_int min2_int max_two min_two
set_option linter.unusedVariables false
set_option linter.unusedSimpArgs false

structure Op where
  name : ByteArray
  b : ByteArray
  put : Bool
def Op.cells (o : Op) : List Value := [.string o.name, .string o.b, .bool o.put]

structure D where
  room : Int
  kept : M
  kn : Nat
  now : M
  nn : Nat
  pend : List Op
  steps : Int
  left : Int

/-- Where a disk lies: its struct, its two maps, the slice of what is pending. -/
structure Foot where
  g : Nat
  kb : Nat
  nb : Nat
  pv : Value
def Foot.has (F : Foot) (i : Nat) : Prop := i = F.g ∨ i = F.kb ∨ i = F.nb ∨ F.pv.ownBlock = some i
def Foot.cells (F : Foot) (d : D) : Array Value := #[.int .i64 d.room, .map (some F.kb), .map (some F.nb), F.pv, .int .i64 d.steps, .int .i64 d.left]

abbrev mapAt (w : World) (b n : Nat) (m : M) : Prop := ∃ x : DU, w.ownsMap Try.prog 9 (plainElem Try.prog 9) b n x ∧ Sees x m

structure IsDisk (w : World) (F : Foot) (d : D) : Prop where
  st : w.heap[F.g]? = some (.cells (F.cells d) 59 (0, 0))
  kept : mapAt w F.kb d.kn d.kept
  now : mapAt w F.nb d.nn d.now
  pend : w.ownsRow 0 62 3 F.pv d.pend.length (d.pend.flatMap Op.cells)
  apart : F.kb ≠ F.nb
  pg : F.pv.ownBlock ≠ some F.g

/-- What a call on a disk leaves as it was. -/
structure Turn (w w' : World) (F F' : Foot) : Prop where
  os : w'.os = w.os
  tape : w'.tape = w.tape
  output : w'.output = w.output
  size : w.heap.size ≤ w'.heap.size
  block : ∀ k, k < w.heap.size → ¬ F.has k → w'.heap[k]? = w.heap[k]?
  foot : ∀ k, F'.has k → F.has k ∨ w.heap.size ≤ k
  g : F'.g = F.g

theorem Turn.refl (w : World) (F : Foot) : Turn w w F F := ⟨rfl, rfl, rfl, Nat.le_refl _, fun _ _ _ => rfl, fun _ h => .inl h, rfl⟩
theorem Turn.trans {w w1 w2 : World} {F F1 F2 : Foot} (h : Turn w w1 F F1) (k : Turn w1 w2 F1 F2) : Turn w w2 F F2 :=
  ⟨k.os.trans h.os, k.tape.trans h.tape, k.output.trans h.output, Nat.le_trans h.size k.size,
    fun i hi hn => (k.block i (Nat.lt_of_lt_of_le hi h.size) (fun e => by rcases h.foot i e with e | e; exact hn e; omega)).trans (h.block i hi hn),
    fun i hi => by rcases k.foot i hi with e | e; exact h.foot i e; exact .inr (Nat.le_trans h.size e), k.g.trans h.g⟩
theorem Turn.below {w0 w w' : World} {F F' : Foot} {B : Nat} (hb : Below B w0 w) (h : Turn w w' F F') (hf : ∀ k, F.has k → B ≤ k) (hB : B ≤ w.heap.size) : Below B w0 w' :=
  ⟨h.os.trans hb.os, h.tape.trans hb.tape, h.output.trans hb.output, Nat.le_trans hb.size h.size,
    fun i hi => (h.block i (by omega) (fun e => by have := hf i e; omega)).trans (hb.block i hi)⟩

theorem IsDisk.lt {w : World} {F : Foot} {d : D} (h : IsDisk w F d) : ∀ k, F.has k → k < w.heap.size := by
  intro k hk
  rcases hk with rfl | rfl | rfl | hk
  · exact (Array.getElem?_eq_some_iff.1 h.st).1
  · obtain ⟨_, o, _⟩ := h.kept; exact o.lt
  · obtain ⟨_, o, _⟩ := h.now; exact o.lt
  · exact (h.pend.lt k hk).2
theorem IsDisk.gk {w : World} {F : Foot} {d : D} (h : IsDisk w F d) : F.g ≠ F.kb ∧ F.g ≠ F.nb := by
  have hs := h.st
  constructor
  · obtain ⟨_, ⟨es, clock, o, _⟩, _⟩ := h.kept
    intro e; rw [e, o] at hs; cases hs
  · obtain ⟨_, ⟨es, clock, o, _⟩, _⟩ := h.now
    intro e; rw [e, o] at hs; cases hs
theorem mapAt.kept {w w' : World} {b n : Nat} {m : M} (h : mapAt w b n m) (hb : w'.heap[b]? = w.heap[b]?) : mapAt w' b n m := by
  obtain ⟨x, ⟨es, clock, o, r⟩, hs⟩ := h
  exact ⟨x, ⟨es, clock, hb.trans o, r⟩, hs⟩
theorem row_kept {w w' : World} {e size n : Nat} {v : Value} {xs : List Value} (h : w.ownsRow 0 e size v n xs) (hb : ∀ b, v.ownBlock = some b → w'.heap[b]? = w.heap[b]?) : w'.ownsRow 0 e size v n xs := by
  refine ⟨h.1, ?_⟩
  rcases h.2 with h2 | ⟨g, cap, cur, hv, h0, hg, r⟩
  · exact .inl h2
  · exact .inr ⟨g, cap, cur, hv, h0, (hb g (by rw [hv]; rfl)).trans hg, r⟩
/-- A disk stands where its blocks stand. -/
theorem IsDisk.kept_ {w w' : World} {F : Foot} {d : D} (h : IsDisk w F d) (hb : ∀ k, F.has k → w'.heap[k]? = w.heap[k]?) : IsDisk w' F d :=
  ⟨(hb _ (.inl rfl)).trans h.st, h.kept.kept (hb _ (.inr (.inl rfl))), h.now.kept (hb _ (.inr (.inr (.inl rfl)))), row_kept h.pend (fun b e => hb b (.inr (.inr (.inr e)))), h.apart, h.pg⟩

theorem cell_of {w : World} {g : Nat} {c : Array Value} {e : TypeId} {f : Nat × Nat} (h : w.heap[g]? = some (.cells c e f)) (i : Nat) : w.cell? ⟨g, i, none⟩ = c[i]? := by
  simp [World.cell?, h]
theorem frozen_of {w : World} {g : Nat} {c : Array Value} {e : TypeId} (h : w.heap[g]? = some (.cells c e (0, 0))) (i : Nat) : w.frozen? ⟨g, i, none⟩ = false := by
  simp [World.frozen?, h]
theorem IsDisk.c {w : World} {F : Foot} {d : D} (h : IsDisk w F d) :
    w.cell? ⟨F.g, 0, none⟩ = some (.int .i64 d.room) ∧ w.cell? ⟨F.g, 1, none⟩ = some (.map (some F.kb)) ∧ w.cell? ⟨F.g, 2, none⟩ = some (.map (some F.nb)) ∧
    w.cell? ⟨F.g, 3, none⟩ = some F.pv ∧ w.cell? ⟨F.g, 4, none⟩ = some (.int .i64 d.steps) ∧ w.cell? ⟨F.g, 5, none⟩ = some (.int .i64 d.left) := by
  have hs := h.st
  exact ⟨(cell_of hs 0).trans rfl, (cell_of hs 1).trans rfl, (cell_of hs 2).trans rfl, (cell_of hs 3).trans rfl, (cell_of hs 4).trans rfl, (cell_of hs 5).trans rfl⟩

/-- The struct's cells are written anew: nothing else turns. -/
theorem IsDisk.recell {w w' : World} {F : Foot} {d : D} (h : IsDisk w F d) (d' : D) (hk : d'.kept = d.kept) (hkn : d'.kn = d.kn) (hn : d'.now = d.now) (hnn : d'.nn = d.nn) (hp : d'.pend = d.pend)
    (hs : w'.heap[F.g]? = some (.cells (F.cells d') 59 (0, 0))) (ho : ∀ k, k ≠ F.g → w'.heap[k]? = w.heap[k]?) : IsDisk w' F d' := by
  have g1 := h.gk
  refine ⟨hs, ?_, ?_, ?_, h.apart, h.pg⟩
  · rw [hk, hkn]; exact h.kept.kept (ho _ (fun e => g1.1 e.symm))
  · rw [hn, hnn]; exact h.now.kept (ho _ (fun e => g1.2 e.symm))
  · rw [hp]; exact row_kept h.pend (fun b e => ho b (fun e2 => h.pg (by rw [e, e2])))
theorem Turn.recell {w w' : World} {F : Foot} (h1 : w'.os = w.os) (h2 : w'.tape = w.tape) (h3 : w'.output = w.output) (h4 : w'.heap.size = w.heap.size) (ho : ∀ k, k ≠ F.g → w'.heap[k]? = w.heap[k]?) : Turn w w' F F :=
  ⟨h1, h2, h3, by omega, fun k _ hn => ho k (fun e => hn (.inl e)), fun _ h => .inl h, rfl⟩

/-! ### off -/
theorem off_calls {w : World} {F : Foot} {d : D} (h : IsDisk w F d) :
    Calls Try.prog 25 #[.pointer (some ⟨F.g, 0, none⟩)] w fun e w' => e = .returned (.bool (d.left == 0)) ∧ w' = w := by
  obtain ⟨_, _, _, _, _, c5⟩ := h.c
  go_enter Try.func25, Try.ntmps25
  go_wp2
  go_ret
  exact ⟨rfl, rfl⟩

/-! ### step -/
def D.step (d : D) : D := { d with steps := d.steps + 1, left := if d.left > 0 then d.left - 1 else d.left }

theorem step_calls {w : World} {F : Foot} {d : D} (h : IsDisk w F d) (h1 : 0 ≤ d.steps) (h2 : d.steps < 4611686018427387904) (h3 : -1 ≤ d.left) (h4 : d.left ≤ 9223372036854775807) :
    Calls Try.prog 28 #[.pointer (some ⟨F.g, 0, none⟩)] w fun e w' => e = .returned (.int .i64 0) ∧ IsDisk w' F d.step ∧ Turn w w' F F := by
  obtain ⟨_, _, _, _, c4, c5⟩ := h.c
  have f4 := frozen_of h.st 4
  have f5 := frozen_of h.st 5
  by_cases hl : d.left > 0
  · have hb : decide (d.left > 0) = true := decide_eq_true hl
    go_enter Try.func28, Try.ntmps28
    go_wp2
    go_ret
    have ho : ∀ k, k ≠ F.g → ((w.setCell ⟨F.g, 4, none⟩ (.int .i64 (d.steps + 1))).setCell ⟨F.g, 5, none⟩ (.int .i64 (d.left - 1))).heap[k]? = w.heap[k]? :=
      fun k hk => (Below.heap_setCell _ _ _ k hk).trans (Below.heap_setCell _ _ _ k hk)
    exact ⟨rfl, h.recell d.step rfl rfl rfl rfl rfl ((Lib.heap_setCell_same (Lib.heap_setCell_same h.st _) _).trans (by simp [Foot.cells, D.step, hl])) ho, Turn.recell rfl rfl rfl (by simp [World.setCell]) ho⟩
  · have hb : decide (d.left > 0) = false := decide_eq_false hl
    go_enter Try.func28, Try.ntmps28
    go_wp2
    go_ret
    have ho : ∀ k, k ≠ F.g → (w.setCell ⟨F.g, 4, none⟩ (.int .i64 (d.steps + 1))).heap[k]? = w.heap[k]? :=
      fun k hk => Below.heap_setCell _ _ _ k hk
    have hl2 : ¬ 0 < d.left := by omega
    exact ⟨rfl, h.recell d.step rfl rfl rfl rfl rfl ((Lib.heap_setCell_same h.st _).trans (by simp [Foot.cells, D.step, hl2])) ho, Turn.recell rfl rfl rfl (by simp [World.setCell]) ho⟩

-- steps told
/-! ### Steps -/
theorem steps_calls {w : World} {F : Foot} {d : D} (h : IsDisk w F d) :
    Calls Try.prog 16 #[.pointer (some ⟨F.g, 0, none⟩)] w fun e w' => e = .returned (.int .i64 d.steps) ∧ w' = w := by
  obtain ⟨_, _, _, _, c4, _⟩ := h.c
  go_enter Try.func16, Try.ntmps16
  go_wp2
  go_ret
  exact ⟨rfl, rfl⟩

-- steps told end
/-! ### Limit -/
def D.limit (d : D) (k : Int) : D := { d with left := if k < 0 then 0 else k }
theorem limit_calls {w : World} {F : Foot} {d : D} (h : IsDisk w F d) (k : Int) :
    Calls Try.prog 15 #[.pointer (some ⟨F.g, 0, none⟩), .int .i64 k] w fun e w' => e = .returned (.tuple #[]) ∧ IsDisk w' F (d.limit k) ∧ Turn w w' F F := by
  obtain ⟨_, _, _, _, _, c5⟩ := h.c
  have f5 := frozen_of h.st 5
  go_enter Try.func15, Try.ntmps15
  go_wp2
  all_goals
    go_end0
    have ho : ∀ v k, k ≠ F.g → (w.setCell ⟨F.g, 5, none⟩ v).heap[k]? = w.heap[k]? := fun v k hk => Below.heap_setCell _ _ _ k hk
    refine ⟨rfl, IsDisk.recell (by assumption : IsDisk w F d) (d.limit k) rfl rfl rfl rfl rfl ((Lib.heap_setCell_same (IsDisk.st (by assumption : IsDisk w F d)) _).trans ?_) (ho _), Turn.recell rfl rfl rfl (by simp [World.setCell]) (ho _)⟩
    simp [Foot.cells, D.limit] <;> omega

/-! ### New -/
def D.new (room : Int) : D := ⟨min (max room 0) 1000000, M.empty, 0, M.empty, 0, [], 0, -1⟩
theorem st_new (w : World) (o1 o2 o3 : Obj) : (((w.alloc o1).alloc o2).alloc o3).heap[w.heap.size + 2]? = some o3 := by
  have := (MapKept.heap_alloc ((w.alloc o1).alloc o2) o3).1
  simpa using this
theorem new_calls (room : Int) (w : World) :
    Calls Try.prog 9 #[.int .i64 room] w fun e w' => e = .returned (.pointer (some ⟨w.heap.size + 2, 0, none⟩)) ∧ IsDisk w' ⟨w.heap.size + 2, w.heap.size, w.heap.size + 1, .slice none 0 0⟩ (D.new room) ∧ Below w.heap.size w w' := by
  have hmm := @run_makeMap Try.prog
  go_enter Try.func9, Try.ntmps9
  go_wp2
  all_goals
    go_ret
    have hB : ∀ o1 o2 o3, Below w.heap.size w (((w.alloc o1).alloc o2).alloc o3) := fun o1 o2 o3 => (((Below.refl _ w).alloc (Nat.le_refl _) _).alloc (by simp) _).alloc (by simp; omega) _
    refine ⟨rfl, ⟨?_, ⟨.map [], ((World.ownsMap_made w _ _ _).alloc _).alloc _, sees_empty⟩, ⟨.map [], ?_, sees_empty⟩, World.ownsRow_nil _ _ _ _, by simp, by simp [Value.ownBlock]⟩, hB _ _ _⟩
    · refine (st_new w _ _ _).trans ?_
      simp only [Foot.cells, D.new]
      congr 6
      omega
    · have e1 : w.heap.size + 1 = (w.alloc (.map #[] 0)).heap.size := by simp
      show World.ownsMap _ _ _ _ (w.heap.size + 1) _ _
      rw [e1]
      exact (World.ownsMap_made (w.alloc (.map #[] 0)) _ _ _).alloc _

end Go.Proofs.Ytocaihmadififaa.Dk
