/- The document's disk: Lay. -/
import Derived.Test.YtocaihmadififaaRefB
import Derived.Test.YtocaihmadififaaMine
import Derived.Test.YtocaihmadififaaProg
import Derived.Below
import Derived.Lib.BufferMore
import Derived.OwnWalk
import Derived.Laws.MakeOwn
import Derived.Maps.AppendAt
import Derived.IntWalk
import Derived.MapKept
import Derived.Lib.SliceRun
import Derived.Laws.Externs
import Derived.Shelf.Abstract
import Derived.Deep.LoopGhost
import Derived.Deep.RegionLaw
import Derived.Deep.RegionWith
import Derived.RegionTactic
import Derived.ChangeAlike
import Derived.BigRegion
import Derived.StringKeys
import Derived.Maps.RangeWalk
import Derived.Tactics
import Derived.WalkKit
import Derived.KernelRfl
import Derived.RowKit3
import Derived.RowKit
import Derived.WalkMore
import Derived.Deep.QuietTactic
import Derived.BigQuiet
import Derived.WideLaws
import Derived.Deep.DeepCutAuto
import Derived.OrdersHeld
import Derived.Test.YtocaihmadififaaWWords
import Derived.Test.YtocaihmadififaaWLast
import Derived.Test.YtocaihmadififaaWFour
import Derived.Test.YtocaihmadififaaWMore
namespace Go.Proofs.Ytocaihmadififaa.Dk
open Go.RowKit Go.Maps Go.Proofs.YtocaihmadififaaW.PrintWords Go.Proofs.YtocaihmadififaaW.PrintLast Go.Proofs.YtocaihmadififaaW.PrintMore
set_option linter.unusedVariables false
set_option linter.unusedSimpArgs false

/-- The row of what is pending is another one. -/
theorem IsR.pushed {w w1 : World} {F : RF} {d : R} (h : IsR w F d) {v1 : Value} {ops : List Op} (hg : w.grownBy w1 F.pv.ownBlock) (hown : w1.ownsRow 0 73 3 v1 ops.length (ops.flatMap Op.cells))
    (hat : v1.ownBlock = F.pv.ownBlock ∨ (∃ b, v1.ownBlock = some b ∧ w.heap.size ≤ b) ∨ v1.ownBlock = none) :
    IsR (w1.setCell ⟨F.g, 2, none⟩ v1) { F with pv := v1 } { d with p := ops } ∧ RTurn w (w1.setCell ⟨F.g, 2, none⟩ v1) F { F with pv := v1 } := by
  obtain ⟨n1, n2, n3⟩ := h.ne
  have st1 : w1.heap[F.g]? = some (.cells (F.cells d) 54 (0, 0)) := (hg.block _ (h.lt _ (.inl rfl)) (fun e => n2 e.symm)).trans h.st
  have hv : ∀ b, v1.ownBlock = some b → b ≠ F.g := fun b e e2 => by
    obtain ⟨c, hc⟩ := own_type hown e
    rw [e2, st1] at hc; cases hc
  have ho : ∀ k, k ≠ F.g → (w1.setCell ⟨F.g, 2, none⟩ v1).heap[k]? = w1.heap[k]? := fun k hk => Below.heap_setCell _ _ _ k hk
  have hsz := hg.size
  refine ⟨⟨?_, ?_, ?_⟩, ⟨hg.os, hg.tape, hg.output, by simpa [World.setCell] using hsz, fun k hk hn => ?_, fun k hk => ?_, rfl⟩⟩
  · refine (Lib.heap_setCell_same st1 _).trans ?_
    simp [RF.cells]
  · exact row_kept h.ls (fun b e => (ho b (fun e2 => n1 (by rw [e, e2]))).trans (hg.block b (h.ls.lt b e).2 (fun e2 => n3 b e e2.symm)))
  · exact row_kept hown (fun b e => ho b (hv b e))
  · exact (ho k (fun e => hn (.inl e))).trans (hg.block k hk (fun e => hn (.inr (.inr e.symm))))
  · rcases hk with e | e | e
    · exact .inl (.inl e)
    · exact .inl (.inr (.inl e))
    · have e0 : v1.ownBlock = some k := e
      rcases hat with e2 | ⟨b, e2, hb⟩ | e2
      · exact .inl (.inr (.inr (by rw [← e2]; exact e0)))
      · rw [e2] at e0
        exact .inr (by have := Option.some.inj e0; omega)
      · rw [e2] at e0; cases e0
/-- One file's field is written. -/
theorem IsR.field {w : World} {F : RF} {d : R} (h : IsR w F d) {g cap k i : Nat} {cur : Array Value} {v : Value} {f : Fl} (hlv : F.lv = .slice (some ⟨g, 0, none⟩) d.l.length cap) (hg : w.heap[g]? = some (.cells cur 71 (0, 0)))
    (hnc : d.l.length ≤ cap) (hcm : cap ≤ maxLen) (hcs : cur.size = cap * 4) (ht : cur.toList.take (d.l.length * 4) = d.l.flatMap Fl.cells) (hk : k < d.l.length) (hi : i < 4) (hf : FAt (cur.setIfInBounds (k * 4 + i) v) k f) :
    IsR (w.setCell ⟨g, k * 4 + i, none⟩ v) F { d with l := d.l.set k f } ∧ RTurn w (w.setCell ⟨g, k * 4 + i, none⟩ v) F F := by
  have hne := h.ne
  have hgF : F.g ≠ g := fun e => hne.1 (by rw [hlv, e]; rfl)
  have hl : (d.l.set k f).length = d.l.length := List.length_set
  have ho : ∀ b, b ≠ g → (w.setCell ⟨g, k * 4 + i, none⟩ v).heap[b]? = w.heap[b]? := fun b hb => Below.heap_setCell _ _ _ b hb
  have HE := row_end (w1 := w) (wF := w.setCell ⟨g, k * 4 + i, none⟩ v) (l' := d.l.set k f) (cc := cur.setIfInBounds (k * 4 + i) v) (cap1 := cap) (g1 := g) h (World.grownBy.refl w _) (.inl (by rw [hlv]; rfl))
    (by rw [hl, ← hlv]; exact (ho _ hgF).trans h.st) (Lib.heap_setCell_same hg v) (by omega) hcm (by rw [Array.size_setIfInBounds]; exact hcs) (fun j hj => by
      rw [hl] at hj
      rw [List.getElem_set]
      split
      · rename_i e; subst e; exact hf
      · rename_i e
        obtain ⟨a0, a1, a2, a3⟩ := FAt.of_take ht hj
        refine ⟨?_, ?_, ?_, ?_⟩ <;> rw [Array.getElem?_setIfInBounds, if_neg (by omega)] <;> assumption)
    (fun b h1 _ => ho b h1) (by simp [World.setCell]) rfl rfl rfl
  rw [hl, ← hlv] at HE
  exact HE

/-! ### Lay -/
def old (d : R) (name : ByteArray) : ByteArray := match d.l.find? (fun o => decide (o.name = name)) with | some f => f.has | none => ByteArray.empty
def now_ (d : R) (name b : ByteArray) (put : Bool) : ByteArray := if put then b else old d name ++ b
def Laid (d : R) (name b : ByteArray) (put : Bool) (code : Int) (r : R) : Prop :=
  (d.left = 0 ∧ code = 22 ∧ r = d) ∨ (d.left ≠ 0 ∧ (used d.l : Int) - ((old d name).size : Int) + ((now_ d name b put).size : Int) > d.room ∧ code = 25 ∧ r = d) ∨
  (d.left ≠ 0 ∧ ¬ (used d.l : Int) - ((old d name).size : Int) + ((now_ d name b put).size : Int) > d.room ∧ code = 0 ∧ ∃ (k : Nat) (l' : List Fl) (h : k < l'.length), Made name d.l k l' ∧
    r = ({ d with l := l'.set k { l'[k] with has := now_ d name b put }, p := d.p ++ [⟨name, b, put⟩] } : R).step)
structure R.Fit (d : R) : Prop where
  s0 : 0 ≤ d.steps
  s1 : d.steps ≤ 1099511627776
  l0 : -1 ≤ d.left
  l1 : d.left ≤ 9223372036854775807
  r0 : 0 ≤ d.room
  r1 : d.room ≤ 1000000
  ll : d.l.length ≤ 900
  pl : d.p.length ≤ 1048576
  us : used d.l ≤ 1125899906842624
theorem made_len {name : ByteArray} {l l' : List Fl} {k : Nat} (h : Made name l k l') : k < l'.length ∧ l'.length ≤ l.length + 1 := by
  rcases h with ⟨h, _, _, rfl⟩ | ⟨_, h, rfl⟩
  · exact ⟨h, by omega⟩
  · simp only [List.length_append, List.length_take, List.length_cons, List.length_drop]
    omega
theorem lay_off_calls {w : World} {F : RF} {d : R} (h : IsR w F d) (name b : ByteArray) (put : Bool) (hl : d.left = 0) :
    Calls Try.prog 19 #[.pointer (some ⟨F.g, 0, none⟩), .string name, .string b, .bool put] w fun e w' => e = .returned (.int .i64 22) ∧ w' = w := by
  obtain ⟨_, _, _, _, c4⟩ := h.c
  have hb : (d.left == 0) = true := beq_iff_eq.mpr hl
  clear hl
  go_enter Try.func19, Try.ntmps19
  go_wp2
  go_ret
  exact ⟨rfl, rfl⟩
/-- Behind 'make': the file's bytes, what is pending, the step. -/
theorem fset {cur : Array Value} {k : Nat} {f : Fl} {v : ByteArray} (hk : k * 4 + 3 < cur.size) (h : FAt cur k f) : FAt (cur.setIfInBounds (k * 4 + 1) (.string v)) k { f with has := v } := by
  obtain ⟨h0, h1, h2, h3⟩ := h
  refine ⟨?_, ?_, ?_, ?_⟩
  · rw [Array.getElem?_setIfInBounds, if_neg (by omega)]; exact h0
  · rw [Array.getElem?_setIfInBounds, if_pos rfl, if_pos (by omega)]
  · rw [Array.getElem?_setIfInBounds, if_neg (by omega)]; exact h2
  · rw [Array.getElem?_setIfInBounds, if_neg (by omega)]; exact h3
theorem files_full {w : World} {F : RF} {d : R} (h : IsR w F d) {k : Nat} (hk : k < d.l.length) :
    ∃ g cap cur, F.lv = .slice (some ⟨g, 0, none⟩) d.l.length cap ∧ w.heap[g]? = some (.cells cur 71 (0, 0)) ∧ d.l.length ≤ cap ∧ cap ≤ maxLen ∧ cur.size = cap * 4 ∧ cur.toList.take (d.l.length * 4) = d.l.flatMap Fl.cells := by
  rcases h.ls.2 with ⟨_, h0⟩ | ⟨g, cap, cur, e, _, hg, r⟩
  · omega
  · exact ⟨g, cap, cur, e, hg, r⟩
theorem size_set (w : World) (a : Addr) (v : Value) : (w.setCell a v).heap.size = w.heap.size := by simp [World.setCell]
/-- Where 'make' has been: the store of the bytes. -/
theorem lay_store {w : World} {F F0 : RF} {d : R} (h : IsR w F d) (hg0 : F.g = F0.g) {k : Nat} (hk : k < d.l.length) (nw : ByteArray) :
    ∃ g cap, w.cell? ⟨F0.g, 1, none⟩ = some (.slice (some ⟨g, 0, none⟩) d.l.length cap) ∧ (∃ v, w.cell? ⟨g, k * 4 + 1, none⟩ = some v) ∧ w.frozen? ⟨g, k * 4 + 1, none⟩ = false ∧
      IsR (w.setCell ⟨g, k * 4 + 1, none⟩ (.string nw)) F { d with l := d.l.set k { d.l[k] with has := nw } } ∧ RTurn w (w.setCell ⟨g, k * 4 + 1, none⟩ (.string nw)) F F ∧
      (w.setCell ⟨g, k * 4 + 1, none⟩ (.string nw)).cell? ⟨F0.g, 2, none⟩ = some F.pv := by
  obtain ⟨g, cap, cur, hlv, hg, hnc, hcm, hcs, ht⟩ := files_full h hk
  have hF := h.field (i := 1) (f := { d.l[k] with has := nw }) (v := .string nw) hlv hg hnc hcm hcs ht hk (by omega) (fset (by omega) (FAt.of_take ht hk))
  refine ⟨g, cap, ?_, ⟨_, (cell_of hg _).trans (Array.getElem?_eq_getElem (by omega))⟩, frozen_of hg _, hF.1, hF.2, ?_⟩
  · rw [← hg0, h.c.2.1, hlv]
  · rw [← hg0]; exact hF.1.c.2.2.1
/-- .. and what is pending. -/
theorem lay_push {w w1 : World} {F F0 : RF} {d : R} (h : IsR w F d) (hg0 : F.g = F0.g) (o : Op) {v1 : Value} (hown : w1.ownsRow 0 73 3 v1 (d.p.length + 1) (d.p.flatMap Op.cells ++ o.cells)) (hg : w.grownBy w1 F.pv.ownBlock)
    (hat : v1.ownBlock = F.pv.ownBlock ∨ ∃ b, v1.ownBlock = some b ∧ w.heap.size ≤ b) (hs : 0 ≤ d.steps ∧ d.steps ≤ 1099511627776 ∧ -1 ≤ d.left ∧ d.left ≤ 9223372036854775807) :
    w1.cell? ⟨F0.g, 2, none⟩ = some F.pv ∧ w1.frozen? ⟨F0.g, 2, none⟩ = false ∧ RTurn w (w1.setCell ⟨F0.g, 2, none⟩ v1) F { F with pv := v1 } ∧
      Calls Try.prog 34 #[.pointer (some ⟨F0.g, 0, none⟩)] (w1.setCell ⟨F0.g, 2, none⟩ v1) fun e w' => e = .returned (.tuple #[]) ∧ IsR w' { F with pv := v1 } ({ d with p := d.p ++ [o] } : R).step ∧ RTurn (w1.setCell ⟨F0.g, 2, none⟩ v1) w' { F with pv := v1 } { F with pv := v1 } := by
  have hP := h.pushed (ops := d.p ++ [o]) (v1 := v1) hg (by simpa using hown) (by rcases hat with e | e; exact .inl e; exact .inr (.inl e))
  have hne := h.ne
  have st1 : w1.heap[F.g]? = some (.cells (F.cells d) 54 (0, 0)) := (hg.block _ (h.lt _ (.inl rfl)) (fun e => hne.2.1 e.symm)).trans h.st
  rw [← hg0]
  refine ⟨(cell_of st1 2).trans rfl, frozen_of st1 2, hP.2, ?_⟩
  obtain ⟨a, b, c, e⟩ := hs
  exact rstep_calls (F := { F with pv := v1 }) hP.1 a (by show d.steps < _; omega) c e

end Go.Proofs.Ytocaihmadififaa.Dk
