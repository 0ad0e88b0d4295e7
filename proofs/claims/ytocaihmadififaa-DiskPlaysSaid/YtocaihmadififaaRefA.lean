/- The document's disk as it lies in the heap; its small methods. -/
import Derived.Test.YtocaihmadififaaDiskF
import Derived.Test.YtocaihmadififaaMine
import Derived.Test.YtocaihmadififaaProg
import Derived.Below
import Derived.Lib.BufferMore
import Derived.OwnWalk
import Derived.Laws.MakeOwn
import Derived.Maps.AppendAt
import Derived.IntWalk
import Derived.MapKept
import Derived.Lib.SliceRun
import Derived.Laws.Externs
import Derived.Shelf.Abstract
import Derived.Deep.LoopGhost
import Derived.Deep.RegionLaw
import Derived.StringKeys
import Derived.Maps.RangeWalk
import Derived.Tactics
import Derived.WalkKit
import Derived.KernelRfl
import Derived.RowKit3
import Derived.RowKit
import Derived.WalkMore
import Derived.Deep.QuietTactic
import Derived.BigQuiet
import Derived.WideLaws
import Derived.Deep.DeepCutAuto
import Derived.OrdersHeld
import Derived.Test.YtocaihmadififaaWWords
import Derived.Test.YtocaihmadififaaWLast
import Derived.Test.YtocaihmadififaaWFour
import Derived.Test.YtocaihmadififaaWMore
namespace Go.Proofs.Ytocaihmadififaa.Dk
open Go.RowKit Go.Maps Go.Proofs.YtocaihmadififaaW.PrintWords Go.Proofs.YtocaihmadififaaW.PrintLast Go.Proofs.YtocaihmadififaaW.PrintMore
set_option linter.unusedVariables false
set_option linter.unusedSimpArgs false

/-! ### The document's disk -/
structure Fl where
  name : ByteArray
  has : ByteArray
  kept : ByteArray
  is : Bool
def Fl.cells (f : Fl) : List Value := [.string f.name, .string f.has, .string f.kept, .bool f.is]
structure R where
  room : Int
  l : List Fl
  p : List Op
  steps : Int
  left : Int
structure RF where
  g : Nat
  lv : Value
  pv : Value
def RF.has (F : RF) (i : Nat) : Prop := i = F.g ∨ F.lv.ownBlock = some i ∨ F.pv.ownBlock = some i
def RF.cells (F : RF) (d : R) : Array Value := #[.int .i64 d.room, F.lv, F.pv, .int .i64 d.steps, .int .i64 d.left]
structure IsR (w : World) (F : RF) (d : R) : Prop where
  st : w.heap[F.g]? = some (.cells (F.cells d) 54 (0, 0))
  ls : w.ownsRow 0 71 4 F.lv d.l.length (d.l.flatMap Fl.cells)
  ps : w.ownsRow 0 73 3 F.pv d.p.length (d.p.flatMap Op.cells)
structure RTurn (w w' : World) (F F' : RF) : Prop where
  os : w'.os = w.os
  tape : w'.tape = w.tape
  output : w'.output = w.output
  size : w.heap.size ≤ w'.heap.size
  block : ∀ k, k < w.heap.size → ¬ F.has k → w'.heap[k]? = w.heap[k]?
  foot : ∀ k, F'.has k → F.has k ∨ w.heap.size ≤ k
  g : F'.g = F.g
theorem RTurn.refl (w : World) (F : RF) : RTurn w w F F := ⟨rfl, rfl, rfl, Nat.le_refl _, fun _ _ _ => rfl, fun _ h => .inl h, rfl⟩
theorem RTurn.trans {w w1 w2 : World} {F F1 F2 : RF} (h : RTurn w w1 F F1) (k : RTurn w1 w2 F1 F2) : RTurn w w2 F F2 :=
  ⟨k.os.trans h.os, k.tape.trans h.tape, k.output.trans h.output, Nat.le_trans h.size k.size,
    fun i hi hn => (k.block i (Nat.lt_of_lt_of_le hi h.size) (fun e => by rcases h.foot i e with e | e; exact hn e; omega)).trans (h.block i hi hn),
    fun i hi => by rcases k.foot i hi with e | e; exact h.foot i e; exact .inr (Nat.le_trans h.size e), k.g.trans h.g⟩
theorem RTurn.of_below {w w' : World} {F : RF} (h : Below w.heap.size w w') : RTurn w w' F F := ⟨h.os, h.tape, h.output, h.size, fun k hk _ => h.block k hk, fun _ h => .inl h, rfl⟩
theorem own_type {w : World} {B e size n : Nat} {v : Value} {xs : List Value} (h : w.ownsRow B e size v n xs) {b : Nat} (hb : v.ownBlock = some b) : ∃ cells, w.heap[b]? = some (.cells cells e (0, 0)) := by
  rcases h.2 with ⟨rfl, _⟩ | ⟨g, cap, cur, rfl, _, hg, _⟩
  · cases hb
  · cases hb; exact ⟨cur, hg⟩
theorem IsR.ne {w : World} {F : RF} {d : R} (h : IsR w F d) : F.lv.ownBlock ≠ some F.g ∧ F.pv.ownBlock ≠ some F.g ∧ ∀ b, F.lv.ownBlock = some b → F.pv.ownBlock ≠ some b := by
  have hs := h.st
  refine ⟨fun e => ?_, fun e => ?_, fun b e1 e2 => ?_⟩
  · obtain ⟨c, hc⟩ := own_type h.ls e
    rw [hs] at hc; cases hc
  · obtain ⟨c, hc⟩ := own_type h.ps e
    rw [hs] at hc; cases hc
  · obtain ⟨c, hc⟩ := own_type h.ls e1
    obtain ⟨c2, hc2⟩ := own_type h.ps e2
    rw [hc] at hc2; cases hc2
theorem IsR.lt {w : World} {F : RF} {d : R} (h : IsR w F d) : ∀ k, F.has k → k < w.heap.size := by
  intro k hk
  rcases hk with rfl | hk | hk
  · exact (Array.getElem?_eq_some_iff.1 h.st).1
  · exact (h.ls.lt k hk).2
  · exact (h.ps.lt k hk).2
theorem IsR.kept_ {w w' : World} {F : RF} {d : R} (h : IsR w F d) (hb : ∀ k, F.has k → w'.heap[k]? = w.heap[k]?) : IsR w' F d :=
  ⟨(hb _ (.inl rfl)).trans h.st, row_kept h.ls (fun b e => hb b (.inr (.inl e))), row_kept h.ps (fun b e => hb b (.inr (.inr e)))⟩
theorem IsR.on {w w' : World} {F : RF} {d : R} (h : IsR w F d) (hb : Below w.heap.size w w') : IsR w' F d := h.kept_ (fun k hk => hb.block k (h.lt k hk))
theorem IsR.c {w : World} {F : RF} {d : R} (h : IsR w F d) :
    w.cell? ⟨F.g, 0, none⟩ = some (.int .i64 d.room) ∧ w.cell? ⟨F.g, 1, none⟩ = some F.lv ∧ w.cell? ⟨F.g, 2, none⟩ = some F.pv ∧ w.cell? ⟨F.g, 3, none⟩ = some (.int .i64 d.steps) ∧ w.cell? ⟨F.g, 4, none⟩ = some (.int .i64 d.left) := by
  have hs := h.st
  exact ⟨(cell_of hs 0).trans rfl, (cell_of hs 1).trans rfl, (cell_of hs 2).trans rfl, (cell_of hs 3).trans rfl, (cell_of hs 4).trans rfl⟩
/-- The struct's cells are written anew. -/
theorem IsR.recell {w w' : World} {F F' : RF} {d d' : R} (h : IsR w F d) (hg : F'.g = F.g) (hlv : F'.lv = F.lv) (hpv : F'.pv = F.pv) (hl : d'.l = d.l) (hp : d'.p = d.p)
    (hs : w'.heap[F.g]? = some (.cells (F'.cells d') 54 (0, 0))) (ho : ∀ k, k ≠ F.g → w'.heap[k]? = w.heap[k]?) : IsR w' F' d' := by
  obtain ⟨n1, n2, n3⟩ := h.ne
  refine ⟨by rw [hg]; exact hs, ?_, ?_⟩
  · rw [hlv, hl]; exact row_kept h.ls (fun b e => ho b (fun e2 => n1 (by rw [e, e2])))
  · rw [hpv, hp]; exact row_kept h.ps (fun b e => ho b (fun e2 => n2 (by rw [e, e2])))
theorem RTurn.recell {w w' : World} {F : RF} (h1 : w'.os = w.os) (h2 : w'.tape = w.tape) (h3 : w'.output = w.output) (h4 : w'.heap.size = w.heap.size) (ho : ∀ k, k ≠ F.g → w'.heap[k]? = w.heap[k]?) : RTurn w w' F F :=
  ⟨h1, h2, h3, by omega, fun k _ hn => ho k (fun e => hn (.inl e)), fun _ h => .inl h, rfl⟩

/-! ### Rows of files -/
theorem fl_length (l : List Fl) : (l.flatMap Fl.cells).length = l.length * 4 := by
  induction l with
  | nil => rfl
  | cons o r ih => simp [List.flatMap_cons, ih, Fl.cells]; omega
theorem fl_at (l : List Fl) (k i : Nat) (hi : i < 4) (hk : k < l.length) : (l.flatMap Fl.cells)[k * 4 + i]? = (l[k].cells)[i]? := by
  induction l generalizing k with
  | nil => simp at hk
  | cons o r ih =>
    rw [List.flatMap_cons]
    cases k with
    | zero => rw [List.getElem?_append_left (by simp [Fl.cells]; omega)]; simp
    | succ k =>
      rw [List.getElem?_append_right (by simp [Fl.cells]; omega)]
      have : (k + 1) * 4 + i - o.cells.length = k * 4 + i := by simp [Fl.cells]; omega
      rw [this]
      simpa using ih k (by simpa using hk)
theorem fl_cells {w : World} {g : Nat} {cur : Array Value} {e : TypeId} {l : List Fl} {f : Nat × Nat} (hg : w.heap[g]? = some (.cells cur e f)) (ht : cur.toList.take (l.length * 4) = l.flatMap Fl.cells) {k : Nat} (hk : k < l.length) :
    w.cell? ⟨g, k * 4, none⟩ = some (.string l[k].name) ∧ w.cell? ⟨g, k * 4 + 1, none⟩ = some (.string l[k].has) ∧ w.cell? ⟨g, k * 4 + 2, none⟩ = some (.string l[k].kept) ∧ w.cell? ⟨g, k * 4 + 3, none⟩ = some (.bool l[k].is) := by
  have key : ∀ i, i < 4 → w.cell? ⟨g, k * 4 + i, none⟩ = (l[k].cells)[i]? := fun i hi => by
    rw [cell_of hg, ← fl_at l k i hi hk, ← ht, List.getElem?_take]
    rw [if_pos (by omega)]
    simp
  exact ⟨key 0 (by omega), key 1 (by omega), key 2 (by omega), key 3 (by omega)⟩

/-! ### New, step, Limit -/
def R.new (room : Int) : R := ⟨max (min room 1000000) 0, [], [], 0, -1⟩
theorem rnew_calls (room : Int) (w : World) :
    Calls Try.prog 17 #[.int .i64 room] w fun e w' => e = .returned (.pointer (some ⟨w.heap.size, 0, none⟩)) ∧ IsR w' ⟨w.heap.size, .slice none 0 0, .slice none 0 0⟩ (R.new room) ∧ Below w.heap.size w w' := by
  go_enter Try.func17, Try.ntmps17
  go_wp2
  all_goals
    go_ret
    refine ⟨rfl, ⟨?_, World.ownsRow_nil _ _ _ _, World.ownsRow_nil _ _ _ _⟩, (Below.refl _ w).alloc (Nat.le_refl _) _⟩
    refine (MapKept.heap_alloc w _).1.trans ?_
    simp only [RF.cells, R.new]
    congr 6
    omega
def R.step (d : R) : R := { d with steps := d.steps + 1, left := if d.left > 0 then d.left - 1 else d.left }
theorem rstep_calls {w : World} {F : RF} {d : R} (h : IsR w F d) (h1 : 0 ≤ d.steps) (h2 : d.steps < 4611686018427387904) (h3 : -1 ≤ d.left) (h4 : d.left ≤ 9223372036854775807) :
    Calls Try.prog 34 #[.pointer (some ⟨F.g, 0, none⟩)] w fun e w' => e = .returned (.tuple #[]) ∧ IsR w' F d.step ∧ RTurn w w' F F := by
  obtain ⟨_, _, _, c3, c4⟩ := h.c
  have f3 := frozen_of h.st 3
  have f4 := frozen_of h.st 4
  by_cases hl : d.left > 0
  · have hb : decide (d.left > 0) = true := decide_eq_true hl
    go_enter Try.func34, Try.ntmps34
    go_wp2
    go_end0
    have ho : ∀ k, k ≠ F.g → ((w.setCell ⟨F.g, 3, none⟩ (.int .i64 (d.steps + 1))).setCell ⟨F.g, 4, none⟩ (.int .i64 (d.left - 1))).heap[k]? = w.heap[k]? :=
      fun k hk => (Below.heap_setCell _ _ _ k hk).trans (Below.heap_setCell _ _ _ k hk)
    exact ⟨rfl, h.recell (d' := d.step) rfl rfl rfl rfl rfl ((Lib.heap_setCell_same (Lib.heap_setCell_same h.st _) _).trans (by simp [RF.cells, R.step, hl])) ho, RTurn.recell rfl rfl rfl (by simp [World.setCell]) ho⟩
  · have hb : decide (d.left > 0) = false := decide_eq_false hl
    go_enter Try.func34, Try.ntmps34
    go_wp2
    go_end0
    have ho : ∀ k, k ≠ F.g → (w.setCell ⟨F.g, 3, none⟩ (.int .i64 (d.steps + 1))).heap[k]? = w.heap[k]? :=
      fun k hk => Below.heap_setCell _ _ _ k hk
    have hl2 : ¬ 0 < d.left := by omega
    exact ⟨rfl, h.recell (d' := d.step) rfl rfl rfl rfl rfl ((Lib.heap_setCell_same h.st _).trans (by simp [RF.cells, R.step, hl2])) ho, RTurn.recell rfl rfl rfl (by simp [World.setCell]) ho⟩
def R.limit (d : R) (k : Int) : R := { d with left := if k < 0 then 0 else k }
theorem rlimit_calls {w : World} {F : RF} {d : R} (h : IsR w F d) (k : Int) :
    Calls Try.prog 21 #[.pointer (some ⟨F.g, 0, none⟩), .int .i64 k] w fun e w' => e = .returned (.tuple #[]) ∧ IsR w' F (d.limit k) ∧ RTurn w w' F F := by
  obtain ⟨_, _, _, _, c4⟩ := h.c
  have f4 := frozen_of h.st 4
  go_enter Try.func21, Try.ntmps21
  go_wp2
  all_goals
    go_end0
    have ho : ∀ v k, k ≠ F.g → (w.setCell ⟨F.g, 4, none⟩ v).heap[k]? = w.heap[k]? := fun v k hk => Below.heap_setCell _ _ _ k hk
    refine ⟨rfl, IsR.recell (by assumption : IsR w F d) (d' := d.limit k) rfl rfl rfl rfl rfl ((Lib.heap_setCell_same (IsR.st (by assumption : IsR w F d)) _).trans ?_) (ho _), RTurn.recell rfl rfl rfl (by simp [World.setCell]) (ho _)⟩
    simp [RF.cells, R.limit] <;> omega

/-! ### at -/
def fat (name : ByteArray) (l : List Fl) : Int := match l.findIdx? (fun o => decide (o.name = name)) with | some k => (k : Int) | none => -1
theorem fat_hit {name : ByteArray} {l : List Fl} {k : Nat} (hk : k < l.length) (h : l[k].name = name) (hn : ∀ j (h : j < l.length), j < k → l[j].name ≠ name) : fat name l = (k : Int) := by
  unfold fat
  rw [List.findIdx?_eq_some_iff_getElem.2 ⟨hk, by simpa using h, fun j hj => by simpa using hn j (by omega) hj⟩]
theorem fat_miss {name : ByteArray} {l : List Fl} (hn : ∀ j (h : j < l.length), j < l.length → l[j].name ≠ name) : fat name l = -1 := by
  unfold fat
  rw [List.findIdx?_eq_none_iff.2 (fun x hx => by
    obtain ⟨j, hj, rfl⟩ := List.getElem_of_mem hx
    simpa using hn j hj hj)]
theorem rat_calls {w : World} {F : RF} {d : R} (h : IsR w F d) (name : ByteArray) (hlen : d.l.length ≤ 1048576) :
    Calls Try.prog 31 #[.pointer (some ⟨F.g, 0, none⟩), .string name] w fun e w' => e = .returned (.int .i64 (fat name d.l)) ∧ w' = w := by
  obtain ⟨_, c1, _, _, _⟩ := h.c
  rcases h.ls.2 with ⟨elv, h0⟩ | ⟨g, cap, cur, elv, _, hg, hnc, hcm, hcs, htake⟩
  · rw [elv] at c1
    have hnil : d.l = [] := List.length_eq_zero_iff.1 h0
    rw [hnil]
    go_enter Try.func31, Try.ntmps31
    go_wp2
    go_loopw [5] (fun v5 wr => v5 = .int .i64 0 ∧ wr = w) (fun _ _ => 0)
    case atStart => exact ⟨rfl, rfl⟩
    case round =>
      obtain ⟨rfl, rfl⟩ := hrel
      go_wp2
      go_ret
      exact ⟨rfl, rfl⟩
  · rw [elv] at c1
    go_enter Try.func31, Try.ntmps31
    go_wp2
    go_loopw [5] (fun v5 wr => ∃ kk : Nat, kk ≤ d.l.length ∧ v5 = .int .i64 (kk : Int) ∧ wr = w ∧ Aside0 (∀ j (h : j < d.l.length), j < kk → d.l[j].name ≠ name)) (fun v5 _ => d.l.length - (intOf v5).toNat)
    case atStart => exact ⟨0, Nat.zero_le _, rfl, rfl, Aside0.mk (fun j _ hj => absurd hj (Nat.not_lt_zero _))⟩
    case round =>
      obtain ⟨kk, hkk, rfl, rfl, A⟩ := hrel
      by_cases hlt : kk < d.l.length
      · have hltz : decide ((kk : Int) < (d.l.length : Int)) = true := decide_eq_true (by omega)
        obtain ⟨k0, k1, k2, k3⟩ := fl_cells hg htake hlt
        cases hs : (d.l[kk].name.toList == name.toList) with
        | true =>
          have HS : Aside0 (d.l[kk].name = name) := ⟨by rw [same_eq] at hs; exact of_decide_eq_true hs⟩
          go_wp2
          go_ret
          refine ⟨?_, rfl⟩
          rw [fat_hit hlt HS.out A.out]
          rfl
        | false =>
          have HS : Aside0 (d.l[kk].name ≠ name) := ⟨by rw [same_eq] at hs; exact of_decide_eq_false hs⟩
          go_wp2
          refine ⟨⟨kk + 1, by omega, by simp, trivial, Aside0.mk (fun j h hj => ?_)⟩, by simp [intOf]; omega⟩
          by_cases e : j = kk
          · subst e; exact HS.out
          · exact A.out j h (by omega)
      · obtain rfl : kk = d.l.length := by omega
        have hltz : decide ((d.l.length : Int) < (d.l.length : Int)) = false := decide_eq_false (by omega)
        go_wp2
        go_ret
        refine ⟨?_, rfl⟩
        rw [fat_miss A.out]
        rfl

/-! ### used, Read -/
def used : List Fl → Nat
  | [] => 0
  | f :: r => f.has.size + used r
theorem used_append (l : List Fl) (f : Fl) : used (l ++ [f]) = used l + f.has.size := by
  induction l with
  | nil => simp [used]
  | cons a r ih => simp only [List.cons_append, used, ih]; omega
theorem used_take (l : List Fl) (k : Nat) (h : k < l.length) : used (l.take (k + 1)) = used (l.take k) + l[k].has.size := by
  rw [List.take_succ_eq_append_getElem h, used_append]
theorem used_le (l : List Fl) : ∀ k, used (l.take k) ≤ used l := by
  induction l with
  | nil => intro k; simp [used]
  | cons a r ih => intro k; cases k with
    | zero => simp [used]
    | succ k => simp only [List.take_succ_cons, used]; have := ih k; omega
theorem rused_calls {w : World} {F : RF} {d : R} (h : IsR w F d) (hlen : d.l.length ≤ 1048576) (hu : used d.l ≤ 1125899906842624) :
    Calls Try.prog 32 #[.pointer (some ⟨F.g, 0, none⟩)] w fun e w' => e = .returned (.int .i64 (used d.l)) ∧ w' = w := by
  obtain ⟨_, c1, _, _, _⟩ := h.c
  rcases h.ls.2 with ⟨elv, h0⟩ | ⟨g, cap, cur, elv, _, hg, hnc, hcm, hcs, htake⟩
  · rw [elv] at c1
    have hnil : d.l = [] := List.length_eq_zero_iff.1 h0
    rw [hnil]
    go_enter Try.func32, Try.ntmps32
    go_wp2
    go_loopw [3, 4] (fun v3 v4 wr => v3 = .int .i64 0 ∧ v4 = .int .i64 0 ∧ wr = w) (fun _ _ _ => 0)
    case atStart => exact ⟨rfl, rfl, rfl⟩
    case round =>
      obtain ⟨rfl, rfl, rfl⟩ := hrel
      go_wp2
      go_ret
      exact ⟨rfl, rfl⟩
  · rw [elv] at c1
    go_enter Try.func32, Try.ntmps32
    go_wp2
    go_loopw [3, 4] (fun v3 v4 wr => ∃ kk : Nat, kk ≤ d.l.length ∧ v4 = .int .i64 (kk : Int) ∧ v3 = .int .i64 (used (d.l.take kk) : Nat) ∧ wr = w) (fun _ v4 _ => d.l.length - (intOf v4).toNat)
    case atStart => exact ⟨0, Nat.zero_le _, rfl, rfl, rfl⟩
    case round =>
      obtain ⟨kk, hkk, rfl, rfl, rfl⟩ := hrel
      by_cases hlt : kk < d.l.length
      · have hltz : decide ((kk : Int) < (d.l.length : Int)) = true := decide_eq_true (by omega)
        obtain ⟨k0, k1, k2, k3⟩ := fl_cells hg htake hlt
        have hs := used_take d.l kk hlt
        have hu1 := used_le d.l (kk + 1)
        generalize hx : d.l[kk].has = x at k1 hs
        have hsum : used (d.l.take kk) + x.size ≤ 1125899906842624 := by omega
        have HS := Aside0.mk hs
        clear hs hu1 hx k0 k2 k3
        go_wp2
        refine ⟨⟨kk + 1, by omega, by simp, ?_, trivial⟩, by simp [intOf]; omega⟩
        rw [HS.out]
        congr 1
      · obtain rfl : kk = d.l.length := by omega
        have hltz : decide ((d.l.length : Int) < (d.l.length : Int)) = false := decide_eq_false (by omega)
        rw [List.take_length]
        go_wp2
        go_ret
        exact ⟨rfl, rfl⟩
def R.read (d : R) (name : ByteArray) : ByteArray × Int :=
  if d.left = 0 then (ByteArray.empty, 22) else match d.l.find? (fun o => decide (o.name = name)) with | some f => (f.has, 0) | none => (ByteArray.empty, 23)
theorem fat_cases (name : ByteArray) (l : List Fl) : (∃ (k : Nat) (h : k < l.length), fat name l = (k : Int) ∧ l[k].name = name ∧ l.find? (fun o => decide (o.name = name)) = some l[k] ∧ ∀ j (hj : j < k), (l[j]'(by omega)).name ≠ name) ∨ (fat name l = -1 ∧ l.find? (fun o => decide (o.name = name)) = none ∧ ∀ f ∈ l, f.name ≠ name) := by
  unfold fat
  cases e : l.findIdx? (fun o => decide (o.name = name)) with
  | some k =>
    obtain ⟨hk, hit, hn⟩ := List.findIdx?_eq_some_iff_getElem.1 e
    refine .inl ⟨k, hk, rfl, of_decide_eq_true hit, ?_, fun j hj => by simpa using hn j hj⟩
    rw [List.find?_eq_some_iff_getElem]
    exact ⟨hit, k, hk, rfl, fun j hj => by simpa using hn j hj⟩
  | none =>
    have h2 := List.findIdx?_eq_none_iff.1 e
    refine .inr ⟨rfl, List.find?_eq_none.2 (fun x hx => by simpa using h2 x hx), fun x hx => by simpa using h2 x hx⟩
theorem rread_calls {w : World} {F : RF} {d : R} (h : IsR w F d) (name : ByteArray) (hlen : d.l.length ≤ 1048576) :
    Calls Try.prog 23 #[.pointer (some ⟨F.g, 0, none⟩), .string name] w fun e w' => e = .returned (.tuple #[.string (d.read name).1, .int .i64 (d.read name).2]) ∧ w' = w := by
  obtain ⟨_, c1, _, _, c4⟩ := h.c
  have ha := rat_calls h name hlen
  unfold R.read
  by_cases hl : d.left = 0
  · have hb : (d.left == 0) = true := beq_iff_eq.mpr hl
    rw [if_pos hl]
    clear hl ha
    go_enter Try.func23, Try.ntmps23
    go_wp2
    go_ret2
    exact ⟨rfl, rfl⟩
  · have hb : (d.left == 0) = false := beq_eq_false_iff_ne.mpr hl
    rw [if_neg hl]
    clear hl
    rcases fat_cases name d.l with ⟨k, hk, hf, hnm, hfi, _⟩ | ⟨hf, hfi, _⟩
    · rw [hf] at ha
      rw [hfi]
      have hkz : decide ((k : Int) < 0) = false := decide_eq_false (by omega)
      rcases h.ls.2 with ⟨elv, h0⟩ | ⟨g, cap, cur, elv, _, hg, hnc, hcm, hcs, htake⟩
      · omega
      · rw [elv] at c1
        obtain ⟨k0, k1, k2, k3⟩ := fl_cells hg htake hk
        clear hf hfi
        go_enter Try.func23, Try.ntmps23
        go_wp2_with (go_at_call 31; with_reducible refine ha.mono ?_; rintro e w' ⟨rfl, rfl⟩)
        go_ret2
        exact ⟨rfl, rfl⟩
    · rw [hf] at ha
      rw [hfi]
      clear hf hfi
      go_enter Try.func23, Try.ntmps23
      go_wp2_with (go_at_call 31; with_reducible refine ha.mono ?_; rintro e w' ⟨rfl, rfl⟩)
      go_ret2
      exact ⟨rfl, rfl⟩

end Go.Proofs.Ytocaihmadififaa.Dk
