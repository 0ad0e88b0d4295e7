/- A disk's copy. -/
import Derived.Test.YtocaihmadififaaDiskF
import Derived.Test.YtocaihmadififaaMine
import Derived.Test.YtocaihmadififaaProg
import Derived.Below
import Derived.Lib.BufferMore
import Derived.OwnWalk
import Derived.Laws.MakeOwn
import Derived.Maps.AppendAt
import Derived.IntWalk
import Derived.MapKept
import Derived.Lib.SliceRun
import Derived.Laws.Externs
import Derived.Shelf.Abstract
import Derived.Deep.LoopGhost
import Derived.Deep.RegionLaw
import Derived.Deep.RegionWith
import Derived.StringKeys
import Derived.Maps.RangeWalk
import Derived.Tactics
import Derived.WalkKit
import Derived.KernelRfl
import Derived.RowKit3
import Derived.RowKit
import Derived.WalkMore
import Derived.Deep.QuietTactic
import Derived.BigQuiet
import Derived.WideLaws
import Derived.Deep.DeepCutAuto
import Derived.OrdersHeld
import Derived.Test.YtocaihmadififaaWWords
import Derived.Test.YtocaihmadififaaWLast
import Derived.Test.YtocaihmadififaaWFour
import Derived.Test.YtocaihmadififaaWMore
namespace Go.Proofs.Ytocaihmadififaa.Dk
open Go.RowKit Go.Maps Go.Proofs.YtocaihmadififaaW.PrintWords Go.Proofs.YtocaihmadififaaW.PrintLast Go.Proofs.YtocaihmadififaaW.PrintMore
set_option linter.unusedVariables false
set_option linter.unusedSimpArgs false

theorem mapAt.on {w w' : World} {b n : Nat} {m : M} (h : mapAt w b n m) (hb : Below w.heap.size w w') : mapAt w' b n m := by
  obtain ⟨x, o, hs⟩ := h
  exact mapAt.kept ⟨x, o, hs⟩ (hb.block b o.lt)
theorem mapAt.lt {w : World} {b n : Nat} {m : M} (h : mapAt w b n m) : b < w.heap.size := by
  obtain ⟨x, o, hs⟩ := h
  exact o.lt
theorem IsDisk.on {w w' : World} {F : Foot} {d : D} (h : IsDisk w F d) (hb : Below w.heap.size w w') : IsDisk w' F d := h.kept_ (fun k hk => hb.block k (h.lt k hk))
theorem mapAt_at {w W : World} {n s : Nat} {m : M} (h : mapAt w W.drew.heap.size n m) (e : W.heap.size = s) : mapAt w s n m := by
  subst e
  exact h
theorem copy_end {w W1 w2 w3 w4 : World} {F : Foot} {d : D} {b2 b3 : Nat} {v' v3 : Value} (hB1 : Below w.heap.size w W1) (hsz1 : W1.heap.size = w.heap.size + 1)
    (hc1 : W1.heap[w.heap.size]? = some (.cells #[.int .i64 d.room, .map (some F.kb), .map (some F.nb), v3, .int .i64 d.steps, .int .i64 d.left] 59 (0, 0)))
    (hb2 : Below W1.heap.size W1 w2) (hm2 : mapAt w2 b2 d.kn d.kept) (h2 : b2 = w.heap.size + 1) (hb3 : Below w2.heap.size w2 w3) (hm3 : mapAt w3 b3 d.nn d.now) (h3 : b3 = w2.heap.size)
    (hb4 : Below w3.heap.size w3 w4) (hr : w4.ownsRow 0 62 3 v' d.pend.length (d.pend.flatMap Op.cells)) (hbl : ∀ b, v'.ownBlock = some b → w3.heap.size ≤ b) :
    ∃ F' : Foot, Ending.returned (.pointer (some ⟨w.heap.size, 0, none⟩)) = Ending.returned (.pointer (some ⟨F'.g, 0, none⟩)) ∧
      IsDisk (((w4.setCell ⟨w.heap.size, 1, none⟩ (.map (some b2))).setCell ⟨w.heap.size, 2, none⟩ (.map (some b3))).setCell ⟨w.heap.size, 3, none⟩ v') F' d ∧ (∀ k, F'.has k → w.heap.size ≤ k) ∧
      Below w.heap.size w (((w4.setCell ⟨w.heap.size, 1, none⟩ (.map (some b2))).setCell ⟨w.heap.size, 2, none⟩ (.map (some b3))).setCell ⟨w.heap.size, 3, none⟩ v') := by
  have l2 := hm2.lt
  have l3 := hm3.lt
  have z2 := hb2.size
  have z3 := hb3.size
  have z4 := hb4.size
  have hc4 : w4.heap[w.heap.size]? = some (.cells #[.int .i64 d.room, .map (some F.kb), .map (some F.nb), v3, .int .i64 d.steps, .int .i64 d.left] 59 (0, 0)) :=
    (hb4.block _ (by omega)).trans ((hb3.block _ (by omega)).trans ((hb2.block _ (by omega)).trans hc1))
  have ho : ∀ k, k ≠ w.heap.size → (((w4.setCell ⟨w.heap.size, 1, none⟩ (.map (some b2))).setCell ⟨w.heap.size, 2, none⟩ (.map (some b3))).setCell ⟨w.heap.size, 3, none⟩ v').heap[k]? = w4.heap[k]? :=
    fun k hk => (Below.heap_setCell _ _ _ k hk).trans ((Below.heap_setCell _ _ _ k hk).trans (Below.heap_setCell _ _ _ k hk))
  refine ⟨⟨w.heap.size, b2, b3, v'⟩, rfl, ⟨?_, ?_, ?_, ?_, ?_, ?_⟩, ?_, ?_⟩
  · refine (Lib.heap_setCell_same (Lib.heap_setCell_same (Lib.heap_setCell_same hc4 _) _) _).trans ?_
    simp [Foot.cells]
  · exact ((hm2.on hb3).on hb4).kept (ho _ (by show b2 ≠ _; omega))
  · exact (hm3.on hb4).kept (ho _ (by show b3 ≠ _; omega))
  · exact row_kept hr (fun b e => ho b (fun e2 => by have := hbl b e; omega))
  · show b2 ≠ b3; omega
  · show v'.ownBlock ≠ some w.heap.size
    intro e; have := hbl _ e; omega
  · intro k hk
    rcases hk with e | e | e | e
    · have e2 : k = w.heap.size := e; omega
    · have e2 : k = b2 := e; omega
    · have e2 : k = b3 := e; omega
    · have := hbl k e; omega
  · exact (((((hB1.trans (hb2.mono (by omega))).trans (hb3.mono (by omega))).trans (hb4.mono (by omega))).setCell (Nat.le_refl _) _).setCell (Nat.le_refl _) _).setCell (Nat.le_refl _) _

set_option maxHeartbeats 4000000 in
theorem copy_calls {w : World} {F : Foot} {d : D} (HD : IsDisk w F d) (hlen : d.pend.length ≤ 1048576) :
    Calls Try.prog 18 #[.pointer (some ⟨F.g, 0, none⟩)] w fun e w' => ∃ F', e = .returned (.pointer (some ⟨F'.g, 0, none⟩)) ∧ IsDisk w' F' d ∧ (∀ k, F'.has k → w.heap.size ≤ k) ∧ Below w.heap.size w w' := by
  obtain ⟨c0, c1, c2, c3, c4, c5⟩ := HD.c
  obtain ⟨pa, pn, pc, hpv⟩ := row_slice HD.pend
  have hrow := HD.pend
  rw [hpv] at c3 hrow
  go_enter Try.func18, Try.ntmps18
  go_wp2
  obtain ⟨W1, hW1⟩ : ∃ W1, W1 = (w.alloc (.cells #[.int .i64 d.room, .map (some F.kb), .map (some F.nb), .slice pa pn pc, .int .i64 d.steps, .int .i64 d.left] 59)) := ⟨_, rfl⟩
  have hB1 : Below w.heap.size w W1 := by rw [hW1]; exact (Below.refl _ w).alloc (Nat.le_refl _) _
  have hc1 : W1.heap[w.heap.size]? = some (.cells #[.int .i64 d.room, .map (some F.kb), .map (some F.nb), .slice pa pn pc, .int .i64 d.steps, .int .i64 d.left] 59 (0, 0)) := by rw [hW1]; exact (MapKept.heap_alloc w _).1
  rw [← hW1]
  have s1 : W1.heap[F.g]? = some (.cells (F.cells d) 59 (0, 0)) := (hB1.block _ (HD.lt _ (.inl rfl))).trans HD.st
  have hgl : F.g < W1.heap.size := Nat.lt_of_lt_of_le (HD.lt _ (.inl rfl)) hB1.size
  have hsz1 : W1.heap.size = w.heap.size + 1 := by rw [hW1]; simp
  have HD1 := HD.on hB1
  have hrow1 : W1.ownsRow 0 62 3 (.slice pa pn pc) d.pend.length (d.pend.flatMap Op.cells) := by rw [← hpv]; exact HD1.pend
  have cK := fun W (hb : Below W1.heap.size W1 W) => clone_calls (HD1.kept.on hb)
  have cN := fun W (hb : Below W1.heap.size W1 W) => clone_calls (HD1.now.on hb)
  have cP := fun W (hb : Below W1.heap.size W1 W) => sclone_calls (row_kept hrow1 (fun b e => hb.block b (hrow1.lt b e).2)) hlen
  have hb0 : Below W1.heap.size W1 W1.drew := below_drew1 (Below.refl _ _)
  have facts : ∀ W, Below W1.heap.size W1 W → W.cell? ⟨F.g, 1, none⟩ = some (.map (some F.kb)) ∧ W.cell? ⟨F.g, 2, none⟩ = some (.map (some F.nb)) ∧ W.cell? ⟨F.g, 3, none⟩ = some (.slice pa pn pc) ∧
      W.cell? ⟨w.heap.size, 1, none⟩ = some (.map (some F.kb)) ∧ W.cell? ⟨w.heap.size, 2, none⟩ = some (.map (some F.nb)) ∧ W.cell? ⟨w.heap.size, 3, none⟩ = some (.slice pa pn pc) ∧
      W.frozen? ⟨w.heap.size, 1, none⟩ = false ∧ W.frozen? ⟨w.heap.size, 2, none⟩ = false ∧ W.frozen? ⟨w.heap.size, 3, none⟩ = false := fun W hb => by
    have g1 := (hb.block _ hgl).trans s1
    have g2 := (hb.block w.heap.size (by omega)).trans hc1
    refine ⟨(cell_of g1 1).trans rfl, (cell_of g1 2).trans rfl, (cell_of g1 3).trans ?_, (cell_of g2 1).trans rfl, (cell_of g2 2).trans rfl, (cell_of g2 3).trans rfl, frozen_of g2 _, frozen_of g2 _, frozen_of g2 _⟩
    show some F.pv = _
    rw [hpv]
  obtain ⟨u1, u2, u3, u4, u5, u6, u7, u8, u9⟩ := facts W1.drew hb0
  have HR := Aside0.mk hrow1
  have HD2 := Aside0.mk HD1
  clear hrow1 hrow HD1 hW1 c0 c1 c2 c3 c4 c5 s1
  go_region_with (first
    | (go_at_call_of 29 (Value.map (some F.kb)); refine (cK _ ?_).mono ?_; exact hb0; rintro e w2 ⟨rfl, hm2', hb2'⟩; have hm2 : mapAt w2 (w.heap.size + 1) d.kn d.kept := mapAt_at hm2' hsz1; have hb2 : Below W1.heap.size W1 w2 := hb0.trans hb2'; have e2 := hb2; obtain ⟨v1, v2, v3, v4, v5, v6, v7, v8, v9⟩ := facts w2 e2)
    | (go_at_call_of 29 (Value.map (some F.nb)); refine (cN _ ?_).mono ?_; exact e2; rintro e w3 ⟨rfl, hm3, hb3⟩; have e3 := e2.trans (hb3.mono e2.size); obtain ⟨x1, x2, x3, x4, x5, x6, x7, x8, x9⟩ := facts w3 e3)
    | (go_at_call 30; refine (cP _ ?_).mono ?_; exact e3; rintro e w4 ⟨v', rfl, hr4, hbl4, hb4⟩; have e4 := e3.trans (hb4.mono e3.size); obtain ⟨y1, y2, y3, y4, y5, y6, y7, y8, y9⟩ := facts w4 e4; obtain ⟨qa, qn, qc, rfl⟩ := row_slice hr4))
  all_goals
    go_wp2
    go_ret
    exact copy_end hB1 hsz1 hc1 hb2 hm2 rfl hb3 hm3 rfl hb4 hr4 hbl4

end Go.Proofs.Ytocaihmadififaa.Dk
