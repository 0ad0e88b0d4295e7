/- The document's disk: Sync. -/
import Derived.Test.YtocaihmadififaaRefC
import Derived.Test.YtocaihmadififaaMine
import Derived.Test.YtocaihmadififaaProg
import Derived.Below
import Derived.Lib.BufferMore
import Derived.OwnWalk
import Derived.Laws.MakeOwn
import Derived.Maps.AppendAt
import Derived.IntWalk
import Derived.MapKept
import Derived.Lib.SliceRun
import Derived.Laws.Externs
import Derived.Shelf.Abstract
import Derived.Deep.LoopGhost
import Derived.Deep.RegionLaw
import Derived.Deep.RegionWith
import Derived.RegionTactic
import Derived.ChangeAlike
import Derived.BigRegion
import Derived.StringKeys
import Derived.Maps.RangeWalk
import Derived.Tactics
import Derived.WalkKit
import Derived.KernelRfl
import Derived.RowKit3
import Derived.RowKit
import Derived.WalkMore
import Derived.Deep.QuietTactic
import Derived.BigQuiet
import Derived.WideLaws
import Derived.Deep.DeepCutAuto
import Derived.OrdersHeld
import Derived.Test.YtocaihmadififaaWWords
import Derived.Test.YtocaihmadififaaWLast
import Derived.Test.YtocaihmadififaaWFour
import Derived.Test.YtocaihmadififaaWMore
namespace Go.Proofs.Ytocaihmadififaa.Dk
open Go.RowKit Go.Maps Go.Proofs.YtocaihmadififaaW.PrintWords Go.Proofs.YtocaihmadififaaW.PrintLast Go.Proofs.YtocaihmadififaaW.PrintMore
set_option linter.unusedVariables false
set_option linter.unusedSimpArgs false

theorem own_base_ {w : World} {B e size n : Nat} {v : Value} {xs : List Value} (h : w.ownsRow B e size v n xs) : v.ownBlock = none ∨ ∃ b, v.ownBlock = some b ∧ B ≤ b := by
  rcases h.2 with ⟨rfl, _⟩ | ⟨g, cap, cur, rfl, hb, _⟩
  · exact .inl rfl
  · exact .inr ⟨g, rfl, hb⟩
theorem own_zero {w : World} {B e size n : Nat} {v : Value} {xs : List Value} (h : w.ownsRow B e size v n xs) : w.ownsRow 0 e size v n xs := own_weaken h (Nat.zero_le _)
/-- A file's bytes are kept. -/
theorem sync_store {w : World} {F : RF} {d : R} (h : IsR w F d) {k : Nat} (hk : k < d.l.length) (v : ByteArray) :
    ∃ g cap, F.lv = .slice (some ⟨g, 0, none⟩) d.l.length cap ∧ w.cell? ⟨g, k * 4 + 1, none⟩ = some (.string d.l[k].has) ∧ w.cell? ⟨g, k * 4 + 2, none⟩ = some (.string d.l[k].kept) ∧ w.cell? ⟨g, k * 4 + 3, none⟩ = some (.bool d.l[k].is) ∧
      w.frozen? ⟨g, k * 4 + 2, none⟩ = false ∧ w.frozen? ⟨g, k * 4 + 3, none⟩ = false ∧
      IsR ((w.setCell ⟨g, k * 4 + 2, none⟩ (.string v)).setCell ⟨g, k * 4 + 3, none⟩ (.bool true)) F { d with l := d.l.set k { d.l[k] with kept := v, is := true } } ∧
      RTurn w ((w.setCell ⟨g, k * 4 + 2, none⟩ (.string v)).setCell ⟨g, k * 4 + 3, none⟩ (.bool true)) F F := by
  obtain ⟨g, cap, cur, hlv, hg, hnc, hcm, hcs, ht⟩ := files_full h hk
  obtain ⟨k0, k1, k2, k3⟩ := fl_cells hg ht hk
  have hA := FAt.of_take ht hk
  obtain ⟨a0, a1, a2, a3⟩ := hA
  have h1 := h.field (i := 2) (f := { d.l[k] with kept := v }) (v := .string v) hlv hg hnc hcm hcs ht hk (by omega) (by
    refine ⟨?_, ?_, ?_, ?_⟩
    · rw [Array.getElem?_setIfInBounds, if_neg (by omega)]; exact a0
    · rw [Array.getElem?_setIfInBounds, if_neg (by omega)]; exact a1
    · rw [Array.getElem?_setIfInBounds, if_pos rfl, if_pos (by omega)]
    · rw [Array.getElem?_setIfInBounds, if_neg (by omega)]; exact a3)
  have hk' : k < ({ d with l := d.l.set k { d.l[k] with kept := v } } : R).l.length := by show k < (d.l.set k _).length; rw [List.length_set]; exact hk
  obtain ⟨g', cap', cur', hlv', hg', hnc', hcm', hcs', ht'⟩ := files_full h1.1 hk'
  have hlen : (d.l.set k { d.l[k] with kept := v }).length = d.l.length := List.length_set
  rw [hlv] at hlv'
  injection hlv' with e1 e2 e3
  have e4 := Option.some.inj e1
  injection e4 with e5
  subst e5
  subst e3
  have hA' := FAt.of_take ht' hk'
  have hget : ({ d with l := d.l.set k { d.l[k] with kept := v } } : R).l[k] = { d.l[k] with kept := v } := by show (d.l.set k _)[k]'(by rw [hlen]; exact hk) = _; rw [List.getElem_set_self]
  rw [hget] at hA'
  obtain ⟨b0, b1, b2, b3⟩ := hA'
  have h2 := h1.1.field (i := 3) (f := { d.l[k] with kept := v, is := true }) (v := .bool true) (by rw [hlv]; show _ = Value.slice _ (d.l.set k _).length _; rw [hlen]) hg' hnc' hcm' hcs' ht' hk' (by omega) (by
    refine ⟨?_, ?_, ?_, ?_⟩
    · rw [Array.getElem?_setIfInBounds, if_neg (by omega)]; exact b0
    · rw [Array.getElem?_setIfInBounds, if_neg (by omega)]; exact b1
    · rw [Array.getElem?_setIfInBounds, if_neg (by omega)]; exact b2
    · rw [Array.getElem?_setIfInBounds, if_pos rfl, if_pos (by omega)])
  have hss : (d.l.set k { d.l[k] with kept := v }).set k { d.l[k] with kept := v, is := true } = d.l.set k { d.l[k] with kept := v, is := true } := by rw [List.set_set]
  refine ⟨g, cap, hlv, k1, k2, k3, frozen_of hg _, frozen_of hg _, ?_, h1.2.trans h2.2⟩
  have h3 := h2.1
  simp only [hss] at h3
  exact h3

/-! ### Sync -/
def R.synced (d : R) (name : ByteArray) (k : Nat) (f : Fl) : R := ({ d with l := d.l.set k { f with kept := f.has, is := true }, p := keep name d.p } : R).step
theorem rsync_off {w : World} {F : RF} {d : R} (h : IsR w F d) (name : ByteArray) (hl : d.left = 0) :
    Calls Try.prog 20 #[.pointer (some ⟨F.g, 0, none⟩), .string name] w fun e w' => e = .returned (.int .i64 22) ∧ w' = w := by
  obtain ⟨_, _, _, _, c4⟩ := h.c
  have hb : (d.left == 0) = true := beq_iff_eq.mpr hl
  clear hl
  go_enter Try.func20, Try.ntmps20
  go_wp2
  go_ret
  exact ⟨rfl, rfl⟩
theorem rsync_none {w : World} {F : RF} {d : R} (h : IsR w F d) (hf : d.Fit) (name : ByteArray) (hl : d.left ≠ 0) (hn : fat name d.l = -1) :
    Calls Try.prog 20 #[.pointer (some ⟨F.g, 0, none⟩), .string name] w fun e w' => e = .returned (.int .i64 23) ∧ w' = w := by
  obtain ⟨_, _, _, _, c4⟩ := h.c
  have hb : (d.left == 0) = false := beq_eq_false_iff_ne.mpr hl
  have ha := rat_calls h name (by have := hf.ll; omega)
  rw [hn] at ha
  clear hl hn
  go_enter Try.func20, Try.ntmps20
  go_wp2_with (go_at_call 31; with_reducible refine ha.mono ?_; rintro e w' ⟨rfl, rfl⟩)
  go_ret
  exact ⟨rfl, rfl⟩
set_option maxHeartbeats 2000000 in
theorem rsync_calls {w : World} {F : RF} {d : R} (h : IsR w F d) (hf : d.Fit) (name : ByteArray) (hl : d.left ≠ 0) {k : Nat} (hk : k < d.l.length) (hn : fat name d.l = (k : Int)) :
    Calls Try.prog 20 #[.pointer (some ⟨F.g, 0, none⟩), .string name] w fun e w' => ∃ F', e = .returned (.int .i64 0) ∧ IsR w' F' (d.synced name k d.l[k]) ∧ RTurn w w' F F' := by
  obtain ⟨_, c1, c2, _, c4⟩ := h.c
  have hb : (d.left == 0) = false := beq_eq_false_iff_ne.mpr hl
  have ha := rat_calls h name (by have := hf.ll; omega)
  have hkz : decide ((k : Int) < 0) = false := decide_eq_false (by omega)
  rw [hn] at ha
  obtain ⟨g, cap, hlv, x1, x2, x3, r2, r3, HI1, HT1⟩ := sync_store h hk d.l[k].has
  rw [hlv] at c1
  have hpl := hf.pl
  have hst : 0 ≤ d.steps ∧ d.steps ≤ 1099511627776 ∧ -1 ≤ d.left ∧ d.left ≤ 9223372036854775807 := ⟨hf.s0, hf.s1, hf.l0, hf.l1⟩
  have HS := Aside0.mk hst
  unfold R.synced
  obtain ⟨f, hfe⟩ : ∃ f, d.l[k] = f := ⟨_, rfl⟩
  rw [hfe] at x1 x2 x3 HI1 HT1 ⊢
  clear hl hn hst
  go_enter Try.func20, Try.ntmps20
  go_wp2_with (go_at_call 31; with_reducible refine ha.mono ?_; rintro e w' ⟨rfl, rfl⟩)
  go_region
  obtain ⟨W1, hW1⟩ : ∃ W1, W1 = ((w'.setCell ⟨g, k * 4 + 2, none⟩ (.string f.has)).setCell ⟨g, k * 4 + 3, none⟩ (.bool true)).drew := ⟨_, rfl⟩
  rw [← hW1]
  have HI : IsR W1 F { d with l := d.l.set k { f with kept := f.has, is := true } } := by rw [hW1]; exact HI1.on (below_drew1 (Below.refl _ _))
  have HT : RTurn w' W1 F F := by rw [hW1]; exact HT1.trans (RTurn.of_below (below_drew1 (Below.refl _ _)))
  obtain ⟨_, _, cP, _, _⟩ := HI.c
  have hIg := HI.lt _ (.inl rfl)
  obtain ⟨pa, pc, hpv⟩ : ∃ a c, F.pv = .slice a d.p.length c := by
    rcases HI.ps.2 with ⟨e, h0⟩ | ⟨g, cap, cur, e, _⟩
    · exact ⟨none, 0, by rw [e]; show _ = Value.slice none d.p.length 0; rw [show d.p.length = 0 from h0]⟩
    · exact ⟨_, cap, e⟩
  rw [hpv] at cP
  have hps := HI.ps
  clear hW1 x1 x2 x3 r2 r3 HI1 HT1 c1 c2 c4 ha
  go_wp2
  go_loopw [6, 7] (fun v6 v7 wr => ∃ kk : Nat, kk ≤ d.p.length ∧ v7 = .int .i64 (kk : Int) ∧ wr.ownsRow W1.heap.size 73 3 v6 (keep name (d.p.take kk)).length ((keep name (d.p.take kk)).flatMap Op.cells) ∧ Below W1.heap.size W1 wr)
    (fun _ v7 _ => d.p.length - (intOf v7).toNat)
  case atStart => exact ⟨0, Nat.zero_le _, rfl, World.ownsRow_nil _ _ _ _, Below.refl _ _⟩
  case round =>
    obtain ⟨kk, hkk, rfl, hown, hbel⟩ := hrel
    have cPr : wr.cell? ⟨F.g, 2, none⟩ = some (.slice pa d.p.length pc) := (hbel.cell (p := ⟨F.g, 2, none⟩) hIg).trans cP
    by_cases hlt : kk < d.p.length
    · have hltz : decide ((kk : Int) < (d.p.length : Int)) = true := decide_eq_true (by omega)
      rcases hps.2 with ⟨elv, h0⟩ | ⟨gp, capp, cur, elv, _, hg, hnc, hcm, hcs, htake⟩
      · have : d.p.length = 0 := h0
        omega
      · rw [hpv] at elv
        have hgr : wr.heap[gp]? = some (.cells cur 73 (0, 0)) := (hbel.block gp (Array.getElem?_eq_some_iff.1 hg).1).trans hg
        have htk : cur.toList.take (d.p.length * 3) = d.p.flatMap Op.cells := htake
        obtain ⟨k0, k1, k2⟩ := cells_of_take hgr htk hlt
        have hnx := keep_next (name := name) hlt
        have hkl : (keep name (d.p.take kk)).length ≤ d.p.length := Nat.le_trans (List.length_filter_le _ _) (by rw [List.length_take]; omega)
        obtain ⟨o, hoe⟩ : ∃ o, d.p[kk] = o := ⟨_, rfl⟩
        rw [hoe] at k0 k1 k2 hnx
        have epa : pa = some ⟨gp, 0, none⟩ := by injection elv
        subst epa
        cases hs : (o.name.toList == name.toList) with
        | true =>
          have HN : Aside0 (keep name (d.p.take (kk + 1)) = keep name (d.p.take kk)) := ⟨by rw [hnx, if_pos (by rw [same_eq] at hs; exact of_decide_eq_true hs), List.append_nil]⟩
          have hs2 : (o.name.toList != name.toList) = false := by simp [bne, hs]
          clear hnx
          go_wp2
          exact ⟨⟨kk + 1, by omega, by simp, by rw [HN.out]; exact hown, hbel⟩, by simp [intOf]; omega⟩
        | false =>
          have HN : Aside0 (keep name (d.p.take (kk + 1)) = keep name (d.p.take kk) ++ [o]) := ⟨by rw [hnx, if_neg (by rw [same_eq] at hs; exact of_decide_eq_false hs)]⟩
          have hs2 : (o.name.toList != name.toList) = true := by simp [bne, hs]
          clear hnx
          go_wp2_with (first
            | ((with_reducible refine gate_builtin (b := .append) (xs := #[.tmp 59, .tmp 67]) rfl ?_); at_builtin; go_loud (refine print_append_cells (w0 := W1) W1.heap.size rfl (.tmp 59) (.tmp 67) 52 73 (.agg #[.string ⟨#[]⟩, .string ⟨#[]⟩, .bool false]) 3 40 rfl Try.underlying52 (by kernel_rfl) rfl (by decide) (by decide) u6 (keep name (d.p.take kk)).length _ [.string o.name, .string o.b, .bool o.put] rfl rfl rfl (by intro u hu; simp at hu; rcases hu with rfl | rfl | rfl <;> rfl) hown hbel hbel.size (by omega) ?_); intro v5 w5 hown5 hb5 hg5 hat5))
          exact ⟨⟨kk + 1, by omega, by simp, by rw [HN.out, List.length_append, List.flatMap_append]; simpa [Op.cells] using hown5, hb5⟩, by simp [intOf]; omega⟩
    · obtain rfl : kk = d.p.length := by omega
      have hltz : decide ((d.p.length : Int) < (d.p.length : Int)) = false := decide_eq_false (by omega)
      rw [List.take_length] at hown
      have HI2 := HI.on hbel
      have hgr : W1.grownBy wr F.pv.ownBlock := ⟨hbel.os, hbel.tape, hbel.output, hbel.size, fun b hb _ => hbel.block b hb⟩
      have hP := HI.pushed (ops := keep name d.p) hgr (own_zero hown) (by rcases own_base_ hown with e | ⟨b, e, hb⟩; exact .inr (.inr e); exact .inr (.inl ⟨b, e, hb⟩))
      obtain ⟨va, vn, vc, hv6⟩ := row_slice (own_zero hown)
      subst hv6
      have f2 : wr.frozen? ⟨F.g, 2, none⟩ = false := (hbel.frozen (p := ⟨F.g, 2, none⟩) hIg).trans (frozen_of HI.st 2)
      obtain ⟨s1, s2, s3, s4⟩ := HS.out
      have hstc := rstep_calls hP.1 s1 (by show d.steps < _; omega) s3 s4
      go_wp2_with (go_at_call 34; with_reducible refine hstc.mono ?_; rintro e w6 ⟨rfl, HI6, HT6⟩)
      go_ret
      exact ⟨_, rfl, HI6, HT.trans (hP.2.trans HT6)⟩

end Go.Proofs.Ytocaihmadififaa.Dk
