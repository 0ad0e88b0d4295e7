/- The document's disk: Lay. -/
import Derived.Test.YtocaihmadififaaRefC
import Derived.Test.YtocaihmadififaaMine
import Derived.Test.YtocaihmadififaaProg
import Derived.Below
import Derived.Lib.BufferMore
import Derived.OwnWalk
import Derived.Laws.MakeOwn
import Derived.Maps.AppendAt
import Derived.IntWalk
import Derived.MapKept
import Derived.Lib.SliceRun
import Derived.Laws.Externs
import Derived.Shelf.Abstract
import Derived.Deep.LoopGhost
import Derived.Deep.RegionLaw
import Derived.Deep.RegionWith
import Derived.RegionTactic
import Derived.ChangeAlike
import Derived.BigRegion
import Derived.StringKeys
import Derived.Maps.RangeWalk
import Derived.Tactics
import Derived.WalkKit
import Derived.KernelRfl
import Derived.RowKit3
import Derived.RowKit
import Derived.WalkMore
import Derived.Deep.QuietTactic
import Derived.BigQuiet
import Derived.WideLaws
import Derived.Deep.DeepCutAuto
import Derived.OrdersHeld
import Derived.Test.YtocaihmadififaaWWords
import Derived.Test.YtocaihmadififaaWLast
import Derived.Test.YtocaihmadififaaWFour
import Derived.Test.YtocaihmadififaaWMore
namespace Go.Proofs.Ytocaihmadififaa.Dk
open Go.RowKit Go.Maps Go.Proofs.YtocaihmadififaaW.PrintWords Go.Proofs.YtocaihmadififaaW.PrintLast Go.Proofs.YtocaihmadififaaW.PrintMore
set_option linter.unusedVariables false
set_option linter.unusedSimpArgs false

set_option maxHeartbeats 4000000 in
theorem lay_calls {w : World} {F : RF} {d : R} (h : IsR w F d) (hf : d.Fit) (name b : ByteArray) (put : Bool) (hb : b.size ≤ 1000000) (hl : d.left ≠ 0) :
    Calls Try.prog 19 #[.pointer (some ⟨F.g, 0, none⟩), .string name, .string b, .bool put] w fun e w' => ∃ code r F', e = .returned (.int .i64 code) ∧ Laid d name b put code r ∧ IsR w' F' r ∧ RTurn w w' F F' := by
  obtain ⟨f1, f2, f3, f4, f5, f6, f7, f8, f9⟩ := hf
  obtain ⟨c0, c1, _, _, c4⟩ := h.c
  have hlz : (d.left == 0) = false := beq_eq_false_iff_ne.mpr hl
  have ha := rat_calls h name (by omega)
  have hu := rused_calls h (by omega) f9
  have hm := rmake_calls h name (by omega)
  have hpost : ∀ code r F' w', Laid d name b put code r → IsR w' F' r → RTurn w w' F F' → ∃ code' r F', Ending.returned (.int .i64 code) = Ending.returned (.int .i64 code') ∧ Laid d name b put code' r ∧ IsR w' F' r ∧ RTurn w w' F F' := fun code r F' w' a b c => ⟨code, r, F', rfl, a, b, c⟩
  have hosz : (old d name).size ≤ used d.l := by
    unfold old
    cases e : d.l.find? (fun o => decide (o.name = name)) with
    | none => simp
    | some f =>
      have hm := List.mem_of_find?_eq_some e
      obtain ⟨i, hi, rfl⟩ := List.getElem_of_mem hm
      have h1 := used_take d.l i hi
      have h2 := used_le d.l (i + 1)
      show d.l[i].has.size ≤ _
      omega
  -- the elder bytes
  have hA : (∃ (k : Nat) (g cap : Nat), fat name d.l = (k : Int) ∧ F.lv = .slice (some ⟨g, 0, none⟩) d.l.length cap ∧ k < d.l.length ∧ w.cell? ⟨g, k * 4 + 1, none⟩ = some (.string (old d name))) ∨ (fat name d.l = -1 ∧ old d name = ByteArray.empty) := by
    unfold old
    rcases fat_cases name d.l with ⟨k, hk, hf, hnm, hfi, _⟩ | ⟨hf, hfi, _⟩
    · rcases h.ls.2 with ⟨elv, h0⟩ | ⟨g, cap, cur, elv, _, hg, hnc, hcm, hcs, htake⟩
      · omega
      · obtain ⟨k0, k1, k2, k3⟩ := fl_cells hg htake hk
        rw [hfi]
        exact .inl ⟨k, g, cap, hf, elv, hk, k1⟩
    · rw [hfi]
      exact .inr ⟨hf, rfl⟩
  obtain ⟨o, ho⟩ : ∃ o, old d name = o := ⟨_, rfl⟩
  obtain ⟨nw, hnw⟩ : ∃ nw, now_ d name b put = nw := ⟨_, rfl⟩
  have hnw2 : nw = if put then b else o ++ b := by rw [← hnw, ← ho]; rfl
  have hbd : o.size + b.size ≤ 2251799813685248 := by rw [← ho]; omega
  have hnwz : nw.size ≤ 2251799813685248 := by rw [hnw2]; split; omega; rw [ByteArray.size_append]; omega
  rw [ho] at hA hosz
  have hu2 := fun W (hb : Below w.heap.size w W) => rused_calls (h.on hb) (by omega) f9
  have hm2 := fun W (hb : Below w.heap.size w W) => rmake_calls (h.on hb) name (by omega)
  have hb0 : Below w.heap.size w w.drew := below_drew1 (Below.refl _ _)
  obtain ⟨u, hue⟩ : ∃ u, used d.l = u := ⟨_, rfl⟩
  rw [hue] at hu2 f9 hosz
  have HR : Aside0 (IsR w.drew F d) := ⟨h.on hb0⟩
  have fin25 : (u : Int) - (o.size : Int) + (nw.size : Int) > d.room → Laid d name b put 25 d := fun hx => .inr (.inl ⟨hl, by rw [hue, ho, hnw]; exact hx, rfl, rfl⟩)
  have fin0 : ¬ (u : Int) - (o.size : Int) + (nw.size : Int) > d.room → ∀ k l' (h : k < l'.length), Made name d.l k l' → Laid d name b put 0 ({ d with l := l'.set k { l'[k] with has := nw }, p := d.p ++ [⟨name, b, put⟩] } : R).step :=
    fun hx k l' hk hM => .inr (.inr ⟨hl, by rw [hue, ho, hnw]; exact hx, rfl, k, l', hk, hM, by rw [hnw]⟩)
  have F25 := Aside0.mk fin25
  have F0 := Aside0.mk fin0
  have HP := Aside0.mk hpost
  have HF : Aside0 (d.l.length ≤ 900 ∧ d.p.length ≤ 1048576 ∧ 0 ≤ d.steps ∧ d.steps ≤ 1099511627776 ∧ -1 ≤ d.left ∧ d.left ≤ 9223372036854775807) := ⟨⟨f7, f8, f1, f2, f3, f4⟩⟩
  have hnz : nw = if put = true then b else o ++ b := hnw2
  have hwz : IntKind.i64.wrap (IntKind.i64.wrap ((u : Int) - (o.size : Int)) + (nw.size : Int)) = (u : Int) - (o.size : Int) + (nw.size : Int) := by
    rw [i64_w, i64_w]
    have e1 : wrap64 ((u : Int) - (o.size : Int)) = (u : Int) - (o.size : Int) := by unfold wrap64; omega
    rw [e1]
    unfold wrap64
    omega
  clear hnw2 hnw ho hue fin25 fin0 hpost hu hm f1 f2 f3 f4 f7 f8 hosz
  rcases hA with ⟨k, g, cap, hfk, hlv, hk, hcell⟩ | ⟨hfk, ho0⟩
  · rw [hfk] at ha
    rw [hlv] at c1
    have hkz : decide (0 ≤ (k : Int)) = true := decide_eq_true (by omega)
    clear hfk
    cases put with
    | true =>
      obtain rfl : nw = b := by rw [hnz]; rfl
      clear hnz
      by_cases hroom : (u : Int) - (o.size : Int) + (nw.size : Int) > d.room
      · have hrz : decide (d.room < (u : Int) - (o.size : Int) + (nw.size : Int)) = true := decide_eq_true hroom
        go_enter Try.func19, Try.ntmps19
        go_wp2_with (go_at_call 31; with_reducible refine ha.mono ?_; rintro e w' ⟨rfl, rfl⟩)
        go_region_with (go_at_call 32; refine (hu2 _ ?_).mono ?_; exact hb0; rintro e w2 ⟨rfl, rfl⟩)
        all_goals
          go_wp2
          go_ret
          exact HP.out 25 d F _ (F25.out hroom) HR.out (RTurn.of_below hb0)
      · have hrz : decide (d.room < (u : Int) - (o.size : Int) + (nw.size : Int)) = false := decide_eq_false hroom
        go_enter Try.func19, Try.ntmps19
        go_wp2_with (go_at_call 31; with_reducible refine ha.mono ?_; rintro e w' ⟨rfl, rfl⟩)
        go_region_with (go_at_call 32; refine (hu2 _ ?_).mono ?_; exact hb0; rintro e w2 ⟨rfl, rfl⟩)
        all_goals
          go_wp2_with (first
            | (go_at_call 33; refine (hm2 _ ?_).mono ?_; exact hb0; rintro e w3 ⟨k3, l3, F3, rfl, HM, HI3, HT3⟩; have hk3 := (made_len HM).1; obtain ⟨g3, cap3, z1, ⟨z2v, z2⟩, z3, HI4, HT4, z4⟩ := lay_store (F0 := F) HI3 HT3.g hk3 nw; have HM3 := Aside0.mk HM; clear HM)
            | ((with_reducible refine gate_builtin (b := .append) (xs := #[.tmp 64, .tmp 69]) rfl ?_); at_builtin; go_loud (refine print_append_cells (w0 := w3) 0 rfl (.tmp 64) (.tmp 69) 52 73 (.agg #[.string ⟨#[]⟩, .string ⟨#[]⟩, .bool false]) 3 40 rfl Try.underlying52 (by kernel_rfl) rfl (by decide) (by decide) F3.pv d.p.length _ [.string name, .string nw, .bool true] rfl (by rw [size_set]; rfl) rfl (by intro u hu; simp at hu; rcases hu with rfl | rfl | rfl <;> rfl) HI4.ps (Below.refl 0 w3 |>.setCell (Nat.zero_le _) _) (Nat.zero_le _) (by have := HF.out.2.1; omega) ?_); intro v5 w5 hown5 hb5 hg5 hat5; obtain ⟨y1, y2, HT5, hst5⟩ := lay_push (F0 := F) HI4 HT3.g ⟨name, nw, true⟩ hown5 hg5 hat5 HF.out.2.2; obtain ⟨g5, cap5, rfl⟩ := own_slice hown5 (Nat.succ_ne_zero _))
            | (go_at_call 34; with_reducible refine hst5.mono ?_; rintro e w6 ⟨rfl, HI6, HT6⟩))
          go_ret
          exact HP.out 0 _ _ _ (F0.out hroom k3 l3 hk3 HM3.out) HI6 (((RTurn.of_below hb0).trans HT3).trans (HT4.trans (HT5.trans HT6)))
    | false =>
      have hcat : o ++ b = nw := by rw [hnz]; rfl
      clear hnz
      by_cases hroom : (u : Int) - (o.size : Int) + (nw.size : Int) > d.room
      · have hrz : decide (d.room < (u : Int) - (o.size : Int) + (nw.size : Int)) = true := decide_eq_true hroom
        go_enter Try.func19, Try.ntmps19
        go_wp2_with (go_at_call 31; with_reducible refine ha.mono ?_; rintro e w' ⟨rfl, rfl⟩)
        go_region_with (go_at_call 32; refine (hu2 _ ?_).mono ?_; exact hb0; rintro e w2 ⟨rfl, rfl⟩)
        all_goals
          go_wp2
          go_ret
          exact HP.out 25 d F _ (F25.out hroom) HR.out (RTurn.of_below hb0)
      · have hrz : decide (d.room < (u : Int) - (o.size : Int) + (nw.size : Int)) = false := decide_eq_false hroom
        go_enter Try.func19, Try.ntmps19
        go_wp2_with (go_at_call 31; with_reducible refine ha.mono ?_; rintro e w' ⟨rfl, rfl⟩)
        go_region_with (go_at_call 32; refine (hu2 _ ?_).mono ?_; exact hb0; rintro e w2 ⟨rfl, rfl⟩)
        all_goals
          go_wp2_with (first
            | (go_at_call 33; refine (hm2 _ ?_).mono ?_; exact hb0; rintro e w3 ⟨k3, l3, F3, rfl, HM, HI3, HT3⟩; have hk3 := (made_len HM).1; obtain ⟨g3, cap3, z1, ⟨z2v, z2⟩, z3, HI4, HT4, z4⟩ := lay_store (F0 := F) HI3 HT3.g hk3 nw; have HM3 := Aside0.mk HM; clear HM)
            | ((with_reducible refine gate_builtin (b := .append) (xs := #[.tmp 64, .tmp 69]) rfl ?_); at_builtin; go_loud (refine print_append_cells (w0 := w3) 0 rfl (.tmp 64) (.tmp 69) 52 73 (.agg #[.string ⟨#[]⟩, .string ⟨#[]⟩, .bool false]) 3 40 rfl Try.underlying52 (by kernel_rfl) rfl (by decide) (by decide) F3.pv d.p.length _ [.string name, .string b, .bool false] rfl (by rw [size_set]; rfl) rfl (by intro u hu; simp at hu; rcases hu with rfl | rfl | rfl <;> rfl) HI4.ps (Below.refl 0 w3 |>.setCell (Nat.zero_le _) _) (Nat.zero_le _) (by have := HF.out.2.1; omega) ?_); intro v5 w5 hown5 hb5 hg5 hat5; obtain ⟨y1, y2, HT5, hst5⟩ := lay_push (F0 := F) HI4 HT3.g ⟨name, b, false⟩ hown5 hg5 hat5 HF.out.2.2; obtain ⟨g5, cap5, rfl⟩ := own_slice hown5 (Nat.succ_ne_zero _))
            | (go_at_call 34; with_reducible refine hst5.mono ?_; rintro e w6 ⟨rfl, HI6, HT6⟩))
          go_ret
          exact HP.out 0 _ _ _ (F0.out hroom k3 l3 hk3 HM3.out) HI6 (((RTurn.of_below hb0).trans HT3).trans (HT4.trans (HT5.trans HT6)))
  · rw [hfk] at ha
    clear hfk
    subst ho0
    have hw0 : IntKind.i64.wrap (u : Int) = (u : Int) := by rw [i64_w]; unfold wrap64; omega
    have hw1 : IntKind.i64.wrap ((u : Int) + (nw.size : Int)) = (u : Int) + (nw.size : Int) := by rw [i64_w]; unfold wrap64; omega
    obtain rfl : nw = b := by
      rw [hnz]
      cases put
      · show ByteArray.empty ++ b = b; simp
      · rfl
    have hcat : (⟨#[]⟩ : ByteArray) ++ nw = nw := by show ByteArray.empty ++ nw = nw; simp
    clear hnz
    cases put with
    | true =>
      by_cases hroom : (u : Int) - ((ByteArray.empty.size : Nat) : Int) + (nw.size : Int) > d.room
      · have hrz : decide (d.room < (u : Int) + (nw.size : Int)) = true := decide_eq_true (by have h0 : (ByteArray.empty.size : Int) = 0 := rfl; omega)
        go_enter Try.func19, Try.ntmps19
        go_wp2_with (go_at_call 31; with_reducible refine ha.mono ?_; rintro e w' ⟨rfl, rfl⟩)
        go_region_with (go_at_call 32; refine (hu2 _ ?_).mono ?_; exact hb0; rintro e w2 ⟨rfl, rfl⟩)
        all_goals
          go_wp2
          go_ret
          exact HP.out 25 d F _ (F25.out hroom) HR.out (RTurn.of_below hb0)
      · have hrz : decide (d.room < (u : Int) + (nw.size : Int)) = false := decide_eq_false (by have h0 : (ByteArray.empty.size : Int) = 0 := rfl; omega)
        go_enter Try.func19, Try.ntmps19
        go_wp2_with (go_at_call 31; with_reducible refine ha.mono ?_; rintro e w' ⟨rfl, rfl⟩)
        go_region_with (go_at_call 32; refine (hu2 _ ?_).mono ?_; exact hb0; rintro e w2 ⟨rfl, rfl⟩)
        all_goals
          go_wp2_with (first
            | (go_at_call 33; refine (hm2 _ ?_).mono ?_; exact hb0; rintro e w3 ⟨k3, l3, F3, rfl, HM, HI3, HT3⟩; have hk3 := (made_len HM).1; obtain ⟨g3, cap3, z1, ⟨z2v, z2⟩, z3, HI4, HT4, z4⟩ := lay_store (F0 := F) HI3 HT3.g hk3 nw; have HM3 := Aside0.mk HM; clear HM)
            | ((with_reducible refine gate_builtin (b := .append) (xs := #[.tmp 64, .tmp 69]) rfl ?_); at_builtin; go_loud (refine print_append_cells (w0 := w3) 0 rfl (.tmp 64) (.tmp 69) 52 73 (.agg #[.string ⟨#[]⟩, .string ⟨#[]⟩, .bool false]) 3 40 rfl Try.underlying52 (by kernel_rfl) rfl (by decide) (by decide) F3.pv d.p.length _ [.string name, .string nw, .bool true] rfl (by rw [size_set]; rfl) rfl (by intro u hu; simp at hu; rcases hu with rfl | rfl | rfl <;> rfl) HI4.ps (Below.refl 0 w3 |>.setCell (Nat.zero_le _) _) (Nat.zero_le _) (by have := HF.out.2.1; omega) ?_); intro v5 w5 hown5 hb5 hg5 hat5; obtain ⟨y1, y2, HT5, hst5⟩ := lay_push (F0 := F) HI4 HT3.g ⟨name, nw, true⟩ hown5 hg5 hat5 HF.out.2.2; obtain ⟨g5, cap5, rfl⟩ := own_slice hown5 (Nat.succ_ne_zero _))
            | (go_at_call 34; with_reducible refine hst5.mono ?_; rintro e w6 ⟨rfl, HI6, HT6⟩))
          go_ret
          exact HP.out 0 _ _ _ (F0.out hroom k3 l3 hk3 HM3.out) HI6 (((RTurn.of_below hb0).trans HT3).trans (HT4.trans (HT5.trans HT6)))
    | false =>
      by_cases hroom : (u : Int) - ((ByteArray.empty.size : Nat) : Int) + (nw.size : Int) > d.room
      · have hrz : decide (d.room < (u : Int) + (nw.size : Int)) = true := decide_eq_true (by have h0 : (ByteArray.empty.size : Int) = 0 := rfl; omega)
        go_enter Try.func19, Try.ntmps19
        go_wp2_with (go_at_call 31; with_reducible refine ha.mono ?_; rintro e w' ⟨rfl, rfl⟩)
        go_region_with (go_at_call 32; refine (hu2 _ ?_).mono ?_; exact hb0; rintro e w2 ⟨rfl, rfl⟩)
        all_goals
          go_wp2
          go_ret
          exact HP.out 25 d F _ (F25.out hroom) HR.out (RTurn.of_below hb0)
      · have hrz : decide (d.room < (u : Int) + (nw.size : Int)) = false := decide_eq_false (by have h0 : (ByteArray.empty.size : Int) = 0 := rfl; omega)
        go_enter Try.func19, Try.ntmps19
        go_wp2_with (go_at_call 31; with_reducible refine ha.mono ?_; rintro e w' ⟨rfl, rfl⟩)
        go_region_with (go_at_call 32; refine (hu2 _ ?_).mono ?_; exact hb0; rintro e w2 ⟨rfl, rfl⟩)
        all_goals
          go_wp2_with (first
            | (go_at_call 33; refine (hm2 _ ?_).mono ?_; exact hb0; rintro e w3 ⟨k3, l3, F3, rfl, HM, HI3, HT3⟩; have hk3 := (made_len HM).1; obtain ⟨g3, cap3, z1, ⟨z2v, z2⟩, z3, HI4, HT4, z4⟩ := lay_store (F0 := F) HI3 HT3.g hk3 nw; have HM3 := Aside0.mk HM; clear HM)
            | ((with_reducible refine gate_builtin (b := .append) (xs := #[.tmp 64, .tmp 69]) rfl ?_); at_builtin; go_loud (refine print_append_cells (w0 := w3) 0 rfl (.tmp 64) (.tmp 69) 52 73 (.agg #[.string ⟨#[]⟩, .string ⟨#[]⟩, .bool false]) 3 40 rfl Try.underlying52 (by kernel_rfl) rfl (by decide) (by decide) F3.pv d.p.length _ [.string name, .string nw, .bool false] rfl (by rw [size_set]; rfl) rfl (by intro u hu; simp at hu; rcases hu with rfl | rfl | rfl <;> rfl) HI4.ps (Below.refl 0 w3 |>.setCell (Nat.zero_le _) _) (Nat.zero_le _) (by have := HF.out.2.1; omega) ?_); intro v5 w5 hown5 hb5 hg5 hat5; obtain ⟨y1, y2, HT5, hst5⟩ := lay_push (F0 := F) HI4 HT3.g ⟨name, nw, false⟩ hown5 hg5 hat5 HF.out.2.2; obtain ⟨g5, cap5, rfl⟩ := own_slice hown5 (Nat.succ_ne_zero _))
            | (go_at_call 34; with_reducible refine hst5.mono ?_; rintro e w6 ⟨rfl, HI6, HT6⟩))
          go_ret
          exact HP.out 0 _ _ _ (F0.out hroom k3 l3 hk3 HM3.out) HI6 (((RTurn.of_below hb0).trans HT3).trans (HT4.trans (HT5.trans HT6)))

end Go.Proofs.Ytocaihmadififaa.Dk
