/- What functions of the program compute, and that the code does so: written by a program of the session. -/
import Derived.Test.YtikncpfppeiplaaPrint0
import Derived.Test.YtikncpfppeiplaaPrint1
import Derived.Test.YtikncpfppeiplaaPrint2
namespace Go.Proofs.Ytikncpfppeiplaa.Print
open Go.RowKit Go.Proofs.YtikncpfppeiplaaW.PrintWords Go.Proofs.YtikncpfppeiplaaW.PrintLast Go.Proofs.YtikncpfppeiplaaW.PrintMore
attribute [local go_sem] max2_int min2_int max_two min_two max_three min_three max_four min_four   -- for this text's walks alone
set_option linter.unusedVariables false
set_option linter.unusedSimpArgs false

/-! ### vedettelaw2_SumRows: function 6 -/
mutual
def vedettelaw2_SumRows.j0 : Nat → List ByteArray → ByteArray → Bool → Option (Bool)
  | 0, _, _, _ => none
  | k + 1, x0, x1, x21 => if x21 = true then (some true) else (vedettelaw2_SumRows.l0 k x0 x1 (⟨#[]⟩ : ByteArray) 0)
def vedettelaw2_SumRows.l0 : Nat → List ByteArray → ByteArray → ByteArray → Int → Option (Bool)
  | 0, _, _, _, _ => none
  | k + 1, x0, x1, x5, x6 => if x6 < (x0.length : Int) then (if 0 ≤ x6 then (if ((rdOf ByteArray.empty x0 x6).size : Int) > 200 then (some true) else ((sum_Wrap.f k (rdOf ByteArray.empty x0 x6)).bind fun t181 => (if x5.size + t181.size ≤ 9223372036854775807 then (vedettelaw2_SumRows.l0 k x0 x1 (x5 ++ t181) (wrap64 (x6 + 1))) else (none)))) else (none)) else (if x5.size + x1.size ≤ 9223372036854775807 then (vedettelaw2_SumRows.l1 k x0 x1 (x5 ++ x1) 0 0) else (none))
def vedettelaw2_SumRows.l1 : Nat → List ByteArray → ByteArray → ByteArray → Int → Int → Option (Bool)
  | 0, _, _, _, _, _ => none
  | k + 1, x0, x1, x5, x7, x8 => if x8 < (x0.length : Int) then (if 0 ≤ x7 then (if x7 ≤ (x5.size : Int) then ((sum_Open.f (x5.extract (x7 : Int).toNat x5.size)).bind fun bt182 => (if bt182.2.2 = 0 then (if 0 ≤ x8 then (if bt182.1.toList = (rdOf ByteArray.empty x0 x8).toList then (vedettelaw2_SumRows.l1 k x0 x1 x5 (wrap64 (x7 + bt182.2.1)) (wrap64 (x8 + 1))) else (some false)) else (none)) else (some false))) else (none)) else (none)) else (if 0 ≤ x7 then (if x7 ≤ (x5.size : Int) then (some ((x5.extract (x7 : Int).toNat x5.size).toList == x1.toList)) else (none)) else (none))
end
def vedettelaw2_SumRows.f (k : Nat) (l0 : List ByteArray) (a1 : ByteArray) : Option (Bool) := (vedettelaw2_known.f k).bind fun t178 => (if t178 = true then (if (l0.length : Int) > 12 then (vedettelaw2_SumRows.j0 k l0 a1 true) else (vedettelaw2_SumRows.j0 k l0 a1 (decide ((a1.size : Int) > 50)))) else (some false))
theorem vedettelaw2_SumRows.mono_l : ∀ k, (∀ y0 y1 y2, LeO (vedettelaw2_SumRows.j0 k y0 y1 y2) (vedettelaw2_SumRows.j0 (k + 1) y0 y1 y2)) ∧ (∀ y0 y1 y2 y3, LeO (vedettelaw2_SumRows.l0 k y0 y1 y2 y3) (vedettelaw2_SumRows.l0 (k + 1) y0 y1 y2 y3)) ∧ (∀ y0 y1 y2 y3 y4, LeO (vedettelaw2_SumRows.l1 k y0 y1 y2 y3 y4) (vedettelaw2_SumRows.l1 (k + 1) y0 y1 y2 y3 y4))
  | 0 => ⟨fun _ _ _ r h => by simp [vedettelaw2_SumRows.j0] at h, fun _ _ _ _ r h => by simp [vedettelaw2_SumRows.l0] at h, fun _ _ _ _ _ r h => by simp [vedettelaw2_SumRows.l1] at h⟩
  | k + 1 => by
    obtain ⟨ih0, ih1, ih2⟩ := vedettelaw2_SumRows.mono_l k
    refine ⟨?_, ?_, ?_⟩
    · intro y0 y1 y2
      unfold vedettelaw2_SumRows.j0
      repeat' first
      | (with_reducible exact ih0 _ _ _)
      | (with_reducible exact ih1 _ _ _ _)
      | (with_reducible exact ih2 _ _ _ _ _)
      | (with_reducible exact sum_Wrap.mono _ _)
      | (with_reducible exact vedettelaw2_known.mono _)
      | (with_reducible exact LeO.refl _)
      | (with_reducible exact LeO.none _)
      | (with_reducible refine LeO.ite ?_ ?_)
      | (with_reducible refine LeO.bind ?_ (fun _ => ?_))
      | exact ih0 _ _ _
      | exact ih1 _ _ _ _
      | exact ih2 _ _ _ _ _
      | exact sum_Wrap.mono _ _
      | exact vedettelaw2_known.mono _
      | exact LeO.none _
      | refine LeO.ite ?_ ?_
      | refine LeO.bind ?_ (fun _ => ?_)
    · intro y0 y1 y2 y3
      unfold vedettelaw2_SumRows.l0
      repeat' first
      | (with_reducible exact ih0 _ _ _)
      | (with_reducible exact ih1 _ _ _ _)
      | (with_reducible exact ih2 _ _ _ _ _)
      | (with_reducible exact sum_Wrap.mono _ _)
      | (with_reducible exact vedettelaw2_known.mono _)
      | (with_reducible exact LeO.refl _)
      | (with_reducible exact LeO.none _)
      | (with_reducible refine LeO.ite ?_ ?_)
      | (with_reducible refine LeO.bind ?_ (fun _ => ?_))
      | exact ih0 _ _ _
      | exact ih1 _ _ _ _
      | exact ih2 _ _ _ _ _
      | exact sum_Wrap.mono _ _
      | exact vedettelaw2_known.mono _
      | exact LeO.none _
      | refine LeO.ite ?_ ?_
      | refine LeO.bind ?_ (fun _ => ?_)
    · intro y0 y1 y2 y3 y4
      unfold vedettelaw2_SumRows.l1
      repeat' first
      | (with_reducible exact ih0 _ _ _)
      | (with_reducible exact ih1 _ _ _ _)
      | (with_reducible exact ih2 _ _ _ _ _)
      | (with_reducible exact sum_Wrap.mono _ _)
      | (with_reducible exact vedettelaw2_known.mono _)
      | (with_reducible exact LeO.refl _)
      | (with_reducible exact LeO.none _)
      | (with_reducible refine LeO.ite ?_ ?_)
      | (with_reducible refine LeO.bind ?_ (fun _ => ?_))
      | exact ih0 _ _ _
      | exact ih1 _ _ _ _
      | exact ih2 _ _ _ _ _
      | exact sum_Wrap.mono _ _
      | exact vedettelaw2_known.mono _
      | exact LeO.none _
      | refine LeO.ite ?_ ?_
      | refine LeO.bind ?_ (fun _ => ?_)
theorem vedettelaw2_SumRows.mono : ∀ a0 a1 k, LeO (vedettelaw2_SumRows.f k a0 a1) (vedettelaw2_SumRows.f (k + 1) a0 a1) := by
  intro a0 a1 k
  obtain ⟨ih0, ih1, ih2⟩ := vedettelaw2_SumRows.mono_l k
  unfold vedettelaw2_SumRows.f
  repeat' first
      | (with_reducible exact ih0 _ _ _)
      | (with_reducible exact ih1 _ _ _ _)
      | (with_reducible exact ih2 _ _ _ _ _)
      | (with_reducible exact sum_Wrap.mono _ _)
      | (with_reducible exact vedettelaw2_known.mono _)
      | (with_reducible exact LeO.refl _)
      | (with_reducible exact LeO.none _)
      | (with_reducible refine LeO.ite ?_ ?_)
      | (with_reducible refine LeO.bind ?_ (fun _ => ?_))
      | exact ih0 _ _ _
      | exact ih1 _ _ _ _
      | exact ih2 _ _ _ _ _
      | exact sum_Wrap.mono _ _
      | exact vedettelaw2_known.mono _
      | exact LeO.none _
      | refine LeO.ite ?_ ?_
      | refine LeO.bind ?_ (fun _ => ?_)
set_option maxHeartbeats 8000000 in
set_option maxRecDepth 100000 in
theorem vedettelaw2_SumRows.calls (k : Nat) (A0 : Option Addr) (c0 : Nat) (l0 : List ByteArray) (a1 : ByteArray) (w : World) (hr0 : Kd.C Kd.string w A0 l0.length l0) (hc0 : l0.length ≤ c0) (h : vedettelaw2_SumRows.f k l0 a1 = some true) :
    Calls Try.prog 6 #[.slice A0 l0.length c0, .string a1] w fun e w' => e = .returned (.bool true) ∧ Below w.heap.size w w' := by
  have HR0 := Aside0.mk hr0
  have HC0 := Aside0.mk hc0
  clear hr0 hc0
  have HB := Aside0.mk (Below.refl w.heap.size w)
  have H : ((vedettelaw2_known.f k).bind fun t178 => (if t178 = true then (if (l0.length : Int) > 12 then (vedettelaw2_SumRows.j0 k l0 a1 true) else (vedettelaw2_SumRows.j0 k l0 a1 (decide ((a1.size : Int) > 50)))) else (some false))) = some true := h
  clear h
  replace H := Option.bind_eq_some_iff.mp H
  obtain ⟨t178, A30, H⟩ := H
  replace H : (if t178 = true then (if (l0.length : Int) > 12 then (vedettelaw2_SumRows.j0 k l0 a1 true) else (vedettelaw2_SumRows.j0 k l0 a1 (decide ((a1.size : Int) > 50)))) else (some false)) = some true := H
  have A3 := Aside0.mk A30
  clear A30
  by_cases c4 : t178 = true
  · subst c4
    have H1 : (if (l0.length : Int) > 12 then (vedettelaw2_SumRows.j0 k l0 a1 true) else (vedettelaw2_SumRows.j0 k l0 a1 (decide ((a1.size : Int) > 50)))) = some true := by rw [if_pos rfl] at H; try exact H
    clear H
    have H := H1
    clear H1
    have HC5 := Aside0.mk H
    clear H
    go_enter Try.func6, Try.ntmps6
    go_upto_region 3 with (first | ((with_reducible refine gate_callee (f := 9) rfl ?_); refine goesL_ (some 12) rfl rfl Try.func9 (by kernel_rfl) rfl #[] rfl (by (try simp only [List.map_toArray, List.map_cons, List.map_nil]); first | done | rfl | (simp only [List.length_drop, List.length_take]; rfl)) ?_; (with_reducible refine (vedettelaw2_known.calls k  true _ A3.out).mono ?_); rintro e w6 ⟨rfl, hb⟩; refine ⟨_, rfl, ?_⟩; have n0_ := Aside0.mk (below_step (by repeat (first | (with_reducible first | exact HB.out | apply below_alloc | apply pw_below_drewN | apply below_drew1) | exact HB.out)) hb); clear HB; have HB := n0_; clear n0_; (try clear hb); (try clear hb2); (try clear hk); (try clear hi)))
    (try simp only [Act.put, List.setIfInBounds_toArray, List.set_cons_zero, List.set_cons_succ])
    go_cut [21] (fun v21 wc => ∃ (kq : Nat) (x21_4 : Bool), v21 = .bool x21_4 ∧ Aside0 (vedettelaw2_SumRows.j0 kq l0 a1 x21_4 = some true) ∧ Aside0 (kq ≤ k) ∧ Aside0 (Below w.heap.size w wc))
    case first =>
      have H := HC5.out
      clear HC5
      by_cases c7 : (l0.length : Int) > 12
      · rw [if_pos c7] at H
        have c7b0 : decide (12 < (l0.length : Int)) = true := decide_eq_true c7
        have c7b1 : decide (12 < l0.length) = true := decide_eq_true (by omega)
        clear c7
        (first | rw [c7b0] | (simp only [i64_w, i32_w]; rw [c7b0]) | skip)
        have H' := Aside0.mk H
        clear H
        go_wp2
        go_meet
        case rel => exact ⟨_, (true), (by first | rfl | (simp; done) | (simp [*]; done)), H', ⟨by first | omega | exact Nat.le_refl _⟩, ⟨by repeat (first | (with_reducible first | exact HB.out | apply below_alloc | apply pw_below_drewN | apply below_drew1) | exact HB.out)⟩⟩
      · rw [if_neg c7] at H
        have c7b0 : decide (12 < (l0.length : Int)) = false := decide_eq_false c7
        have c7b1 : decide (12 < l0.length) = false := decide_eq_false (by omega)
        clear c7
        (first | rw [c7b0] | (simp only [i64_w, i32_w]; rw [c7b0]) | skip)
        have H' := Aside0.mk H
        clear H
        go_wp2
        go_meet
        case rel => exact ⟨_, (decide ((a1.size : Int) > 50)), (by first | rfl | (simp; done) | (simp [*]; done)), H', ⟨by first | omega | exact Nat.le_refl _⟩, ⟨by repeat (first | (with_reducible first | exact HB.out | apply below_alloc | apply pw_below_drewN | apply below_drew1) | exact HB.out)⟩⟩
    case rest =>
      clear HC5
      try clear p2
      try clear c4
      try clear c6
      try clear c7
      try clear c7b0
      try clear c7b1
      obtain ⟨kq, x21_4, rfl, HA, HJ4, HB⟩ := hcut
      cases kq with
      | zero => exact absurd HA.out (by simp [vedettelaw2_SumRows.j0])
      | succ kj4 =>
        have H := HA.out
        clear HA
        simp only [vedettelaw2_SumRows.j0] at H
        by_cases c8 : x21_4 = true
        · subst c8
          have H1 : (some true) = some true := by rw [if_pos rfl] at H; try exact H
          clear H
          have H := H1
          clear H1
          clear H
          go_wp2
          go_ret
          exact ⟨by first | rfl | exact congrArg (fun b_ => Ending.returned (Value.bool b_)) HE.out | (have he_ := HE.out; simp at he_; simp [he_]; done) | (simp [errW_none, errW_some] <;> rfl) | (simp [*, errW_none, errW_some] <;> rfl), by repeat (first | (with_reducible first | exact HB.out | apply below_alloc | apply pw_below_drewN | apply below_drew1) | exact HB.out)⟩
        · replace c8 := Bool.eq_false_iff.mpr c8
          subst c8
          have H1 : (vedettelaw2_SumRows.l0 kj4 l0 a1 (⟨#[]⟩ : ByteArray) 0) = some true := by rw [if_neg (show ¬ (false = true) by decide)] at H; try exact H
          clear H
          have H := H1
          clear H1
          have H' := Aside0.mk H
          clear H
          go_wp2
          go_loopg [5, 6] kj4 (fun kq v5 v6 w' => ∃ (x5_2 : ByteArray) (x6_2 : Int), v5 = .string x5_2 ∧ v6 = .int .i64 x6_2 ∧ Aside0 (vedettelaw2_SumRows.l0 kq l0 a1 x5_2 x6_2 = some true) ∧ Aside0 (kq ≤ kj4) ∧ Aside0 (Below w.heap.size w w'))
          case atStart => exact ⟨((⟨#[]⟩ : ByteArray)), (0), (by first | rfl | (simp; done) | (simp [*]; done)), (by first | rfl | (simp; done) | (simp [*]; done)), H', ⟨Nat.le_refl _⟩, ⟨by repeat (first | (with_reducible first | exact HB.out | apply below_alloc | apply pw_below_drewN | apply below_drew1) | exact HB.out)⟩⟩
          case round =>
            clear H'
            try clear p2
            try clear c4
            try clear c6
            try clear c7
            try clear c7b0
            try clear c7b1
            try clear c8
            try clear p2
            obtain ⟨x5_2, x6_2, rfl, rfl, HA, HK2, HB⟩ := hrel
            cases gk with
            | zero => exact absurd HA.out (by simp [vedettelaw2_SumRows.l0])
            | succ k2 =>
              have H := HA.out
              clear HA
              simp only [vedettelaw2_SumRows.l0] at H
              by_cases c9 : x6_2 < (l0.length : Int)
              · rw [if_pos c9] at H
                have c9b0 : decide (x6_2 < (l0.length : Int)) = true := decide_eq_true c9
                clear c9
                by_cases c10 : 0 ≤ x6_2
                · rw [if_pos c10] at H
                  have c10b0 : decide (0 ≤ x6_2) = true := decide_eq_true c10
                  clear c10
                  by_cases c11 : ((rdOf ByteArray.empty l0 x6_2).size : Int) > 200
                  · rw [if_pos c11] at H
                    have c11b0 : decide (200 < ((rdOf ByteArray.empty l0 x6_2).size : Int)) = true := decide_eq_true c11
                    have c11b1 : decide (200 < (rdOf ByteArray.empty l0 x6_2).size) = true := decide_eq_true (by omega)
                    clear c11
                    clear H
                    have p179 : 0 ≤ (x6_2 : Int) := of_decide_eq_true (by first | (with_reducible assumption) | assumption)
                    have q179 : x6_2 < (l0.length : Int) := of_decide_eq_true (by first | (with_reducible assumption) | assumption)
                    obtain ⟨ad179, e179, hx179_0⟩ := Kd.at_string HR0.out x6_2 p179 q179
                    cases e179
                    replace hx179_0 := (HB.out.cell (World.block_lt_of_cell? w _ hx179_0)).trans hx179_0
                    replace p179 := eq_true p179
                    replace q179 := eq_true q179
                    go_wp2
                    go_ret
                    exact ⟨by first | rfl | exact congrArg (fun b_ => Ending.returned (Value.bool b_)) HE.out | (have he_ := HE.out; simp at he_; simp [he_]; done) | (simp [errW_none, errW_some] <;> rfl) | (simp [*, errW_none, errW_some] <;> rfl), by repeat (first | (with_reducible first | exact HB.out | apply below_alloc | apply pw_below_drewN | apply below_drew1) | exact HB.out)⟩
                  · rw [if_neg c11] at H
                    have c11b0 : decide (200 < ((rdOf ByteArray.empty l0 x6_2).size : Int)) = false := decide_eq_false c11
                    have c11b1 : decide (200 < (rdOf ByteArray.empty l0 x6_2).size) = false := decide_eq_false (by omega)
                    clear c11
                    replace H := Option.bind_eq_some_iff.mp H
                    obtain ⟨t181, A120, H⟩ := H
                    replace H : (if x5_2.size + t181.size ≤ 9223372036854775807 then (vedettelaw2_SumRows.l0 k2 l0 a1 (x5_2 ++ t181) (wrap64 (x6_2 + 1))) else (none)) = some true := H
                    have A12 := Aside0.mk A120
                    clear A120
                    by_cases c13 : x5_2.size + t181.size ≤ 9223372036854775807
                    · rw [if_pos c13] at H
                      have c13b0 := eq_true c13
                      have c13b1 : decide (x5_2.size + t181.size ≤ 9223372036854775807) = true := decide_eq_true c13
                      try have c13b2 : (9223372036854775807 < x5_2.size + t181.size) = False := eq_false (Nat.not_lt.2 c13)
                      clear c13
                      have H' := Aside0.mk H
                      clear H
                      have p179 : 0 ≤ (x6_2 : Int) := of_decide_eq_true (by first | (with_reducible assumption) | assumption)
                      have q179 : x6_2 < (l0.length : Int) := of_decide_eq_true (by first | (with_reducible assumption) | assumption)
                      obtain ⟨ad179, e179, hx179_0⟩ := Kd.at_string HR0.out x6_2 p179 q179
                      cases e179
                      replace hx179_0 := (HB.out.cell (World.block_lt_of_cell? w _ hx179_0)).trans hx179_0
                      replace p179 := eq_true p179
                      replace q179 := eq_true q179
                      have p180 : 0 ≤ (x6_2 : Int) := of_decide_eq_true (by first | (with_reducible assumption) | assumption)
                      have q180 : x6_2 < (l0.length : Int) := of_decide_eq_true (by first | (with_reducible assumption) | assumption)
                      obtain ⟨ad180, e180, hx180_0⟩ := Kd.at_string HR0.out x6_2 p180 q180
                      obtain rfl : ad179 = ad180 := (by injection e180)
                      replace hx180_0 := (HB.out.cell (World.block_lt_of_cell? w _ hx180_0)).trans hx180_0
                      replace p180 := eq_true p180
                      replace q180 := eq_true q180
                      go_wp2_with (first | ((with_reducible refine gate_callee (f := 14) rfl ?_); refine goesL_ (some 39) rfl rfl Try.func14 (by kernel_rfl) rfl #[.string (rdOf ByteArray.empty l0 x6_2)] rfl (by (try simp only [List.map_toArray, List.map_cons, List.map_nil]); first | done | rfl | (simp only [List.length_drop, List.length_take]; rfl)) ?_; (with_reducible refine (sum_Wrap.calls k2 (rdOf ByteArray.empty l0 x6_2) t181 _ A12.out).mono ?_); rintro e w14 ⟨rfl, hb⟩; refine ⟨_, rfl, ?_⟩; have n0_ := Aside0.mk (below_step (by repeat (first | (with_reducible first | exact HB.out | apply below_alloc | apply pw_below_drewN | apply below_drew1) | exact HB.out)) hb); clear HB; have HB := n0_; clear n0_; (try clear hb); (try clear hb2); (try clear hk); (try clear hi)))
                      go_roundg k2
                      case measure => have := HJ4.out; have := HK2.out; omega
                      case rel => exact ⟨(x5_2 ++ t181), (wrap64 (x6_2 + 1)), (by first | rfl | (simp; done) | (simp [*]; done)), (by first | rfl | (simp; done) | (simp [*]; done)), H', ⟨by have := HJ4.out; have := HK2.out; omega⟩, ⟨by repeat (first | (with_reducible first | exact HB.out | apply below_alloc | apply pw_below_drewN | apply below_drew1) | exact HB.out)⟩⟩
                    · rw [if_neg c13] at H
                      exact absurd H (by simp)
                · rw [if_neg c10] at H
                  exact absurd H (by simp)
              · rw [if_neg c9] at H
                have c9b0 : decide (x6_2 < (l0.length : Int)) = false := decide_eq_false c9
                clear c9
                by_cases c15 : x5_2.size + a1.size ≤ 9223372036854775807
                · rw [if_pos c15] at H
                  have c15b0 := eq_true c15
                  have c15b1 : decide (x5_2.size + a1.size ≤ 9223372036854775807) = true := decide_eq_true c15
                  try have c15b2 : (9223372036854775807 < x5_2.size + a1.size) = False := eq_false (Nat.not_lt.2 c15)
                  clear c15
                  have H' := Aside0.mk H
                  clear H
                  go_wp2
                  generalize hzs16 : (x5_2 ++ a1) = zs16 at H' ⊢
                  have Hzs16 := Aside0.mk hzs16
                  clear hzs16
                  go_loopg [7, 8] k2 (fun kq v7 v8 w' => ∃ (x7_3 : Int) (x8_3 : Int), v7 = .int .i64 x7_3 ∧ v8 = .int .i64 x8_3 ∧ Aside0 (vedettelaw2_SumRows.l1 kq l0 a1 zs16 x7_3 x8_3 = some true) ∧ Aside0 (kq ≤ k2) ∧ Aside0 (Below w.heap.size w w'))
                  case atStart => exact ⟨(0), (0), (by first | rfl | (simp; done) | (simp [*]; done)), (by first | rfl | (simp; done) | (simp [*]; done)), H', ⟨Nat.le_refl _⟩, ⟨by repeat (first | (with_reducible first | exact HB.out | apply below_alloc | apply pw_below_drewN | apply below_drew1) | exact HB.out)⟩⟩
                  case round =>
                    clear H'
                    try clear c1
                    try clear p1
                    try clear q1
                    try clear hx1
                    try clear p2
                    try clear c4
                    try clear c6
                    try clear p6
                    try clear c7
                    try clear c7b0
                    try clear c7b1
                    try clear c8
                    try clear c9
                    try clear c9b0
                    try clear c10
                    try clear c10b0
                    try clear c11
                    try clear c11b0
                    try clear c11b1
                    try clear c13
                    try clear c13b0
                    try clear c13b1
                    try clear c13b2
                    try clear c14
                    try clear c15
                    try clear c15b0
                    try clear c15b1
                    try clear c15b2
                    try clear hx179_0
                    try clear hx180_0
                    try clear p179
                    try clear p180
                    try clear p2
                    try clear q179
                    try clear q180
                    obtain ⟨x7_3, x8_3, rfl, rfl, HA, HK3, HB⟩ := hrel
                    cases gk with
                    | zero => exact absurd HA.out (by simp [vedettelaw2_SumRows.l1])
                    | succ k3 =>
                      have H := HA.out
                      clear HA
                      simp only [vedettelaw2_SumRows.l1] at H
                      by_cases c17 : x8_3 < (l0.length : Int)
                      · rw [if_pos c17] at H
                        have c17b0 : decide (x8_3 < (l0.length : Int)) = true := decide_eq_true c17
                        clear c17
                        by_cases c18 : 0 ≤ x7_3
                        · rw [if_pos c18] at H
                          have c18b0 := eq_true c18
                          have c18b1 : decide (0 ≤ x7_3) = true := decide_eq_true c18
                          clear c18
                          by_cases c19 : x7_3 ≤ (zs16.size : Int)
                          · rw [if_pos c19] at H
                            have c19b0 := eq_true c19
                            have c19b1 : decide (x7_3 ≤ (zs16.size : Int)) = true := decide_eq_true c19
                            clear c19
                            replace H := Option.bind_eq_some_iff.mp H
                            obtain ⟨⟨t182, t183, t184⟩, A200, H⟩ := H
                            replace H : (if t184 = 0 then (if 0 ≤ x8_3 then (if t182.toList = (rdOf ByteArray.empty l0 x8_3).toList then (vedettelaw2_SumRows.l1 k3 l0 a1 zs16 (wrap64 (x7_3 + t183)) (wrap64 (x8_3 + 1))) else (some false)) else (none)) else (some false)) = some true := H
                            have A20 := Aside0.mk A200
                            clear A200
                            by_cases c21 : t184 = 0
                            · rw [if_pos c21] at H
                              have c21b0 : (t184 == 0) = true := beq_iff_eq.mpr c21
                              have c21b1 : (t184 != 0) = false := bne_eq_false_iff_eq.mpr c21
                              clear c21
                              by_cases c22 : 0 ≤ x8_3
                              · rw [if_pos c22] at H
                                have c22b0 : decide (0 ≤ x8_3) = true := decide_eq_true c22
                                clear c22
                                by_cases c23 : t182.toList = (rdOf ByteArray.empty l0 x8_3).toList
                                · rw [if_pos c23] at H
                                  have c23b0 : (t182.toList == (rdOf ByteArray.empty l0 x8_3).toList) = true := beq_iff_eq.mpr c23
                                  have c23b1 : (t182.toList != (rdOf ByteArray.empty l0 x8_3).toList) = false := bne_eq_false_iff_eq.mpr c23
                                  clear c23
                                  have H' := Aside0.mk H
                                  clear H
                                  go_wp2_with (first | ((with_reducible refine gate_callee (f := 10) rfl ?_); refine goesL_ (some 54) rfl rfl Try.func10 (by kernel_rfl) rfl #[.string (zs16.extract (x7_3 : Int).toNat zs16.size)] rfl (by (try simp only [List.map_toArray, List.map_cons, List.map_nil]); first | done | rfl | (simp only [List.length_drop, List.length_take]; rfl)) ?_; (with_reducible refine (sum_Open.calls (zs16.extract (x7_3 : Int).toNat zs16.size) t182 t183 t184 _ A20.out).mono ?_); rintro e w24 ⟨rfl, hb⟩; refine ⟨_, rfl, ?_⟩; have n0_ := Aside0.mk (below_step (by repeat (first | (with_reducible first | exact HB.out | apply below_alloc | apply pw_below_drewN | apply below_drew1) | exact HB.out)) hb); clear HB; have HB := n0_; clear n0_; (try clear hb); (try clear hb2); (try clear hk); (try clear hi); have p185 : 0 ≤ (x8_3 : Int) := of_decide_eq_true (by first | (with_reducible assumption) | assumption); have q185 : x8_3 < (l0.length : Int) := of_decide_eq_true (by first | (with_reducible assumption) | assumption); obtain ⟨ad185, e185, hx185_0⟩ := Kd.at_string HR0.out x8_3 p185 q185; cases e185; replace hx185_0 := (HB.out.cell (World.block_lt_of_cell? w _ hx185_0)).trans hx185_0; replace p185 := eq_true p185; replace q185 := eq_true q185))
                                  go_roundg k3
                                  case measure => have := HJ4.out; have := HK2.out; have := HK3.out; omega
                                  case rel => exact ⟨(wrap64 (x7_3 + t183)), (wrap64 (x8_3 + 1)), (by first | rfl | (simp; done) | (simp [*]; done)), (by first | rfl | (simp; done) | (simp [*]; done)), H', ⟨by have := HJ4.out; have := HK2.out; have := HK3.out; omega⟩, ⟨by repeat (first | (with_reducible first | exact HB.out | apply below_alloc | apply pw_below_drewN | apply below_drew1) | exact HB.out)⟩⟩
                                · rw [if_neg c23] at H
                                  have c23b0 : (t182.toList == (rdOf ByteArray.empty l0 x8_3).toList) = false := beq_eq_false_iff_ne.mpr c23
                                  have c23b1 : (t182.toList != (rdOf ByteArray.empty l0 x8_3).toList) = true := bne_iff_ne.mpr c23
                                  exact absurd H (by simp)
                              · rw [if_neg c22] at H
                                exact absurd H (by simp)
                            · rw [if_neg c21] at H
                              have c21b0 : (t184 == 0) = false := beq_eq_false_iff_ne.mpr c21
                              have c21b1 : (t184 != 0) = true := bne_iff_ne.mpr c21
                              exact absurd H (by simp)
                          · rw [if_neg c19] at H
                            exact absurd H (by simp)
                        · rw [if_neg c18] at H
                          exact absurd H (by simp)
                      · rw [if_neg c17] at H
                        have c17b0 : decide (x8_3 < (l0.length : Int)) = false := decide_eq_false c17
                        clear c17
                        by_cases c25 : 0 ≤ x7_3
                        · rw [if_pos c25] at H
                          have c25b0 := eq_true c25
                          have c25b1 : decide (0 ≤ x7_3) = true := decide_eq_true c25
                          clear c25
                          by_cases c26 : x7_3 ≤ (zs16.size : Int)
                          · rw [if_pos c26] at H
                            have c26b0 := eq_true c26
                            have c26b1 : decide (x7_3 ≤ (zs16.size : Int)) = true := decide_eq_true c26
                            clear c26
                            have HE := Aside0.mk (Option.some.inj H)
                            clear H
                            go_wp2
                            go_ret
                            exact ⟨by first | rfl | exact congrArg (fun b_ => Ending.returned (Value.bool b_)) HE.out | (have he_ := HE.out; simp at he_; simp [he_]; done) | (simp [errW_none, errW_some] <;> rfl) | (simp [*, errW_none, errW_some] <;> rfl), by repeat (first | (with_reducible first | exact HB.out | apply below_alloc | apply pw_below_drewN | apply below_drew1) | exact HB.out)⟩
                          · rw [if_neg c26] at H
                            exact absurd H (by simp)
                        · rw [if_neg c25] at H
                          exact absurd H (by simp)
                · rw [if_neg c15] at H
                  exact absurd H (by simp)
  · replace c4 := Bool.eq_false_iff.mpr c4
    subst c4
    have H1 : (some false) = some true := by rw [if_neg (show ¬ (false = true) by decide)] at H; try exact H
    clear H
    have H := H1
    clear H1
    exact absurd H (by simp)

-- NOT PRINTED: function 7 (vedettelaw2_SumSwapped)

/-! ### vedettelaw2_SumSizes: function 8 -/
def vedettelaw2_SumSizes.f (k : Nat) (a0 : Int) (a1 : Int) : Option (Bool) := (vedettelaw2_known.f k).bind fun t187 => (if t187 = true then (if 0 ≤ (wrap64 (39999 + (wrap64 (Int.tmod a0 3)))) then (if (wrap64 (39999 + (wrap64 (Int.tmod a0 3))) : Int).toNat ≤ 281474976710656 then ((some (List.replicate (wrap64 (39999 + (wrap64 (Int.tmod a0 3))) : Int).toNat 0 : List Int)).bind fun y188 => (if 0 ≤ (wrap64 ((wrap64 (39999 + (wrap64 (Int.tmod a0 3)))) - 1)) then (if (wrap64 ((wrap64 (39999 + (wrap64 (Int.tmod a0 3)))) - 1)) < (y188.length : Int) then ((some (y188.set ((wrap64 ((wrap64 (39999 + (wrap64 (Int.tmod a0 3)))) - 1)) : Int).toNat a1 : List Int)).bind fun y191 => ((sum_Wrap.f k (strOfNums y191)).bind fun t192 => ((sum_Open.f t192).bind fun bt193 => (if (wrap64 (39999 + (wrap64 (Int.tmod a0 3)))) > 40000 then (if bt193.2.2 = 13 then (if bt193.1.toList = ([] : List UInt8) then (some (bt193.2.1 == 0)) else (some false)) else (some false)) else (if bt193.2.2 = 0 then (some (bt193.1.toList == (strOfNums y191).toList)) else (some false)))))) else (none)) else (none))) else (none)) else (none)) else (some false))
theorem vedettelaw2_SumSizes.mono : ∀ a0 a1 k, LeO (vedettelaw2_SumSizes.f k a0 a1) (vedettelaw2_SumSizes.f (k + 1) a0 a1) := by
  intro a0 a1 k
  unfold vedettelaw2_SumSizes.f
  repeat' first
      | (with_reducible exact sum_Wrap.mono _ _)
      | (with_reducible exact vedettelaw2_known.mono _)
      | (with_reducible exact LeO.refl _)
      | (with_reducible exact LeO.none _)
      | (with_reducible refine LeO.ite ?_ ?_)
      | (with_reducible refine LeO.bind ?_ (fun _ => ?_))
      | exact sum_Wrap.mono _ _
      | exact vedettelaw2_known.mono _
      | exact LeO.none _
      | refine LeO.ite ?_ ?_
      | refine LeO.bind ?_ (fun _ => ?_)
set_option maxHeartbeats 8000000 in
set_option maxRecDepth 100000 in
theorem vedettelaw2_SumSizes.calls (k : Nat) (a0 : Int) (a1 : Int) (w : World) (h : vedettelaw2_SumSizes.f k a0 a1 = some true) :
    Calls Try.prog 8 #[.int .u8 a0, .int .u8 a1] w fun e w' => e = .returned (.bool true) ∧ Below w.heap.size w w' := by
  have HB := Aside0.mk (Below.refl w.heap.size w)
  have H : ((vedettelaw2_known.f k).bind fun t187 => (if t187 = true then (if 0 ≤ (wrap64 (39999 + (wrap64 (Int.tmod a0 3)))) then (if (wrap64 (39999 + (wrap64 (Int.tmod a0 3))) : Int).toNat ≤ 281474976710656 then ((some (List.replicate (wrap64 (39999 + (wrap64 (Int.tmod a0 3))) : Int).toNat 0 : List Int)).bind fun y188 => (if 0 ≤ (wrap64 ((wrap64 (39999 + (wrap64 (Int.tmod a0 3)))) - 1)) then (if (wrap64 ((wrap64 (39999 + (wrap64 (Int.tmod a0 3)))) - 1)) < (y188.length : Int) then ((some (y188.set ((wrap64 ((wrap64 (39999 + (wrap64 (Int.tmod a0 3)))) - 1)) : Int).toNat a1 : List Int)).bind fun y191 => ((sum_Wrap.f k (strOfNums y191)).bind fun t192 => ((sum_Open.f t192).bind fun bt193 => (if (wrap64 (39999 + (wrap64 (Int.tmod a0 3)))) > 40000 then (if bt193.2.2 = 13 then (if bt193.1.toList = ([] : List UInt8) then (some (bt193.2.1 == 0)) else (some false)) else (some false)) else (if bt193.2.2 = 0 then (some (bt193.1.toList == (strOfNums y191).toList)) else (some false)))))) else (none)) else (none))) else (none)) else (none)) else (some false))) = some true := h
  clear h
  replace H := Option.bind_eq_some_iff.mp H
  obtain ⟨t187, A30, H⟩ := H
  replace H : (if t187 = true then (if 0 ≤ (wrap64 (39999 + (wrap64 (Int.tmod a0 3)))) then (if (wrap64 (39999 + (wrap64 (Int.tmod a0 3))) : Int).toNat ≤ 281474976710656 then ((some (List.replicate (wrap64 (39999 + (wrap64 (Int.tmod a0 3))) : Int).toNat 0 : List Int)).bind fun y188 => (if 0 ≤ (wrap64 ((wrap64 (39999 + (wrap64 (Int.tmod a0 3)))) - 1)) then (if (wrap64 ((wrap64 (39999 + (wrap64 (Int.tmod a0 3)))) - 1)) < (y188.length : Int) then ((some (y188.set ((wrap64 ((wrap64 (39999 + (wrap64 (Int.tmod a0 3)))) - 1)) : Int).toNat a1 : List Int)).bind fun y191 => ((sum_Wrap.f k (strOfNums y191)).bind fun t192 => ((sum_Open.f t192).bind fun bt193 => (if (wrap64 (39999 + (wrap64 (Int.tmod a0 3)))) > 40000 then (if bt193.2.2 = 13 then (if bt193.1.toList = ([] : List UInt8) then (some (bt193.2.1 == 0)) else (some false)) else (some false)) else (if bt193.2.2 = 0 then (some (bt193.1.toList == (strOfNums y191).toList)) else (some false)))))) else (none)) else (none))) else (none)) else (none)) else (some false)) = some true := H
  have A3 := Aside0.mk A30
  clear A30
  by_cases c4 : t187 = true
  · subst c4
    have H1 : (if 0 ≤ (wrap64 (39999 + (wrap64 (Int.tmod a0 3)))) then (if (wrap64 (39999 + (wrap64 (Int.tmod a0 3))) : Int).toNat ≤ 281474976710656 then ((some (List.replicate (wrap64 (39999 + (wrap64 (Int.tmod a0 3))) : Int).toNat 0 : List Int)).bind fun y188 => (if 0 ≤ (wrap64 ((wrap64 (39999 + (wrap64 (Int.tmod a0 3)))) - 1)) then (if (wrap64 ((wrap64 (39999 + (wrap64 (Int.tmod a0 3)))) - 1)) < (y188.length : Int) then ((some (y188.set ((wrap64 ((wrap64 (39999 + (wrap64 (Int.tmod a0 3)))) - 1)) : Int).toNat a1 : List Int)).bind fun y191 => ((sum_Wrap.f k (strOfNums y191)).bind fun t192 => ((sum_Open.f t192).bind fun bt193 => (if (wrap64 (39999 + (wrap64 (Int.tmod a0 3)))) > 40000 then (if bt193.2.2 = 13 then (if bt193.1.toList = ([] : List UInt8) then (some (bt193.2.1 == 0)) else (some false)) else (some false)) else (if bt193.2.2 = 0 then (some (bt193.1.toList == (strOfNums y191).toList)) else (some false)))))) else (none)) else (none))) else (none)) else (none)) = some true := by rw [if_pos rfl] at H; try exact H
    clear H
    have H := H1
    clear H1
    obtain ⟨ji5, hji5⟩ : ∃ j_ : Int, (wrap64 (39999 + (wrap64 (Int.tmod a0 3)))) = j_ := ⟨_, rfl⟩
    replace H : (if 0 ≤ (ji5) then (if (ji5 : Int).toNat ≤ 281474976710656 then ((some (List.replicate (ji5 : Int).toNat 0 : List Int)).bind fun y188 => (if 0 ≤ (wrap64 ((ji5) - 1)) then (if (wrap64 ((ji5) - 1)) < (y188.length : Int) then ((some (y188.set ((wrap64 ((ji5) - 1)) : Int).toNat a1 : List Int)).bind fun y191 => ((sum_Wrap.f k (strOfNums y191)).bind fun t192 => ((sum_Open.f t192).bind fun bt193 => (if (ji5) > 40000 then (if bt193.2.2 = 13 then (if bt193.1.toList = ([] : List UInt8) then (some (bt193.2.1 == 0)) else (some false)) else (some false)) else (if bt193.2.2 = 0 then (some (bt193.1.toList == (strOfNums y191).toList)) else (some false)))))) else (none)) else (none))) else (none)) else (none)) = some true := by first | (rw [hji5] at H; exact H) | (simp only [hji5] at H ⊢; exact H)
    (try rw [hji5] at A3)
    have hji5w : (IntKind.i64.wrap (39999 + (wrap64 (Int.tmod a0 3)))) = ji5 := (i64_w _).trans hji5
    by_cases c6 : 0 ≤ (ji5)
    · rw [if_pos c6] at H
      have c6b0 := eq_true c6
      have c6b1 : decide (0 ≤ (ji5)) = true := decide_eq_true c6
      clear c6
      by_cases c7 : (ji5 : Int).toNat ≤ 281474976710656
      · rw [if_pos c7] at H
        have c7b0 := eq_true c7
        have c7b1 : decide ((ji5 : Int).toNat ≤ 281474976710656) = true := decide_eq_true c7
        clear c7
        obtain ⟨y188, hy188⟩ : ∃ y_ : List Int, y_ = (List.replicate (ji5 : Int).toNat 0) := ⟨_, rfl⟩
        replace H : (if 0 ≤ (wrap64 ((ji5) - 1)) then (if (wrap64 ((ji5) - 1)) < (y188.length : Int) then ((some (y188.set ((wrap64 ((ji5) - 1)) : Int).toNat a1 : List Int)).bind fun y191 => ((sum_Wrap.f k (strOfNums y191)).bind fun t192 => ((sum_Open.f t192).bind fun bt193 => (if (ji5) > 40000 then (if bt193.2.2 = 13 then (if bt193.1.toList = ([] : List UInt8) then (some (bt193.2.1 == 0)) else (some false)) else (some false)) else (if bt193.2.2 = 0 then (some (bt193.1.toList == (strOfNums y191).toList)) else (some false)))))) else (none)) else (none)) = some true := by first | (rw [hy188]; with_reducible exact H) | (have H2_ := (Option.bind_some _ _).symm.trans H; rw [hy188]; with_reducible exact H2_) | (have H2_ := (Option.bind_some _ _).symm.trans H; with_reducible exact H2_) | with_reducible exact H | (rw [hy188]; exact H) | exact H
        have Ny188 := Aside0.mk hy188
        clear hy188
        obtain ⟨ji8, hji8⟩ : ∃ j_ : Int, (wrap64 ((ji5) - 1)) = j_ := ⟨_, rfl⟩
        replace H : (if 0 ≤ (ji8) then (if (ji8) < (y188.length : Int) then ((some (y188.set ((ji8) : Int).toNat a1 : List Int)).bind fun y191 => ((sum_Wrap.f k (strOfNums y191)).bind fun t192 => ((sum_Open.f t192).bind fun bt193 => (if (ji5) > 40000 then (if bt193.2.2 = 13 then (if bt193.1.toList = ([] : List UInt8) then (some (bt193.2.1 == 0)) else (some false)) else (some false)) else (if bt193.2.2 = 0 then (some (bt193.1.toList == (strOfNums y191).toList)) else (some false)))))) else (none)) else (none)) = some true := by first | (rw [hji8] at H; exact H) | (simp only [hji8] at H ⊢; exact H)
        (try rw [hji8] at A3)
        have hji8w : (IntKind.i64.wrap ((ji5) - 1)) = ji8 := (i64_w _).trans hji8
        by_cases c9 : 0 ≤ (ji8)
        · rw [if_pos c9] at H
          have c9b0 : decide (0 ≤ (ji8)) = true := decide_eq_true c9
          clear c9
          by_cases c10 : (ji8) < (y188.length : Int)
          · rw [if_pos c10] at H
            have c10b0 : decide ((ji8) < (y188.length : Int)) = true := decide_eq_true c10
            clear c10
            obtain ⟨y191, hy191⟩ : ∃ y_ : List Int, y_ = (y188.set ((ji8) : Int).toNat a1) := ⟨_, rfl⟩
            replace H : ((sum_Wrap.f k (strOfNums y191)).bind fun t192 => ((sum_Open.f t192).bind fun bt193 => (if (ji5) > 40000 then (if bt193.2.2 = 13 then (if bt193.1.toList = ([] : List UInt8) then (some (bt193.2.1 == 0)) else (some false)) else (some false)) else (if bt193.2.2 = 0 then (some (bt193.1.toList == (strOfNums y191).toList)) else (some false))))) = some true := by first | (rw [hy191]; with_reducible exact H) | (have H2_ := (Option.bind_some _ _).symm.trans H; rw [hy191]; with_reducible exact H2_) | (have H2_ := (Option.bind_some _ _).symm.trans H; with_reducible exact H2_) | with_reducible exact H | (rw [hy191]; exact H) | exact H
            have Ny191 := Aside0.mk hy191
            clear hy191
            replace H := Option.bind_eq_some_iff.mp H
            obtain ⟨t192, A120, H⟩ := H
            replace H : ((sum_Open.f t192).bind fun bt193 => (if (ji5) > 40000 then (if bt193.2.2 = 13 then (if bt193.1.toList = ([] : List UInt8) then (some (bt193.2.1 == 0)) else (some false)) else (some false)) else (if bt193.2.2 = 0 then (some (bt193.1.toList == (strOfNums y191).toList)) else (some false)))) = some true := H
            have A12 := Aside0.mk A120
            clear A120
            replace H := Option.bind_eq_some_iff.mp H
            obtain ⟨⟨t193, t194, t195⟩, A130, H⟩ := H
            replace H : (if (ji5) > 40000 then (if t195 = 13 then (if t193.toList = ([] : List UInt8) then (some (t194 == 0)) else (some false)) else (some false)) else (if t195 = 0 then (some (t193.toList == (strOfNums y191).toList)) else (some false))) = some true := H
            have A13 := Aside0.mk A130
            clear A130
            by_cases c14 : (ji5) > 40000
            · rw [if_pos c14] at H
              have c14b0 : decide (40000 < (ji5)) = true := decide_eq_true c14
              clear c14
              by_cases c15 : t195 = 13
              · rw [if_pos c15] at H
                have c15b0 : (t195 == 13) = true := beq_iff_eq.mpr c15
                have c15b1 : (t195 != 13) = false := bne_eq_false_iff_eq.mpr c15
                clear c15
                by_cases c16 : t193.toList = ([] : List UInt8)
                · rw [if_pos c16] at H
                  have c16b0 : (t193.toList == ([] : List UInt8)) = true := beq_iff_eq.mpr c16
                  have c16b1 : (t193.toList != ([] : List UInt8)) = false := bne_eq_false_iff_eq.mpr c16
                  clear c16
                  have HE := Aside0.mk (Option.some.inj H)
                  clear H
                  go_enter Try.func8, Try.ntmps8
                  go_wp2_with (first | ((with_reducible refine gate_callee (f := 9) rfl ?_); refine goesL_ (some 10) rfl rfl Try.func9 (by kernel_rfl) rfl #[] rfl (by (try simp only [List.map_toArray, List.map_cons, List.map_nil]); first | done | rfl | (simp only [List.length_drop, List.length_take]; rfl)) ?_; (with_reducible refine (vedettelaw2_known.calls k  true _ A3.out).mono ?_); rintro e w17 ⟨rfl, hb⟩; refine ⟨_, rfl, ?_⟩; have n0_ := Aside0.mk (below_step (by repeat (first | (with_reducible first | exact HB.out | apply below_alloc | apply pw_below_drewN | apply below_drew1) | exact HB.out)) hb); clear HB; have HB := n0_; clear n0_; (try clear hb); (try clear hb2); (try clear hk); (try clear hi)) | ((with_reducible refine gate_dst (N := 17) rfl ?_); refine Kd.R_make (Kd.int .u8) _ 5 rfl (N := 17) rfl 33 _ _ rfl ji5 rfl rfl Try.underlying33 (.int .u8 0) 1 info5 rfl (by decide) (by omega) 0 (ok := fun _ => True) (okp := fun _ => True) rfl (fun _ hk => hk) trivial (of_decide_eq_true (by first | (with_reducible assumption) | assumption)) (Nat.le_trans (Nat.mul_le_mul_right _ (of_decide_eq_true (by first | (with_reducible assumption) | assumption) : ji5.toNat ≤ 281474976710656)) (by omega)) (Below.refl _ _) (Nat.le_refl _) ?_; intro v189 w18 ho19 hb hg_ hnew_; clear hg_ hnew_; (first | rw [← Ny188.out] at ho19 | (simp only [Int.reduceToNat] at ho19; rw [← Ny188.out] at ho19)); have n0_ := Aside0.mk (Kd.R_lower ho19 (below_size (by repeat (first | (with_reducible first | exact HB.out | apply below_alloc | apply pw_below_drewN | apply below_drew1) | exact HB.out)))); have n1_ := Aside0.mk (below_step (by repeat (first | (with_reducible first | exact HB.out | apply below_alloc | apply pw_below_drewN | apply below_drew1) | exact HB.out)) hb); clear HB; have HO190 := n0_; have HB := n1_; clear n0_ n1_; clear hb ho19; have p11 : 0 ≤ ((ji8) : Int) := of_decide_eq_true (by first | (with_reducible assumption) | assumption); have q11 : ((ji8) : Int) < ((y188.length : Int) : Int) := of_decide_eq_true (by first | (with_reducible assumption) | assumption); obtain ⟨go11, co11, eo11, gb11, gl11, cl11, HG11⟩ := Kd.R_form HO190.out (by omega); (first | cases eo11 | (injection eo11 with ea_ en_ ec_; (first | subst ea_ | (injection ea_ with ea_; subst ea_)); subst ec_; clear en_)); have GB11 := Aside0.mk gb11; have GG11 := Aside0.mk HG11; clear gb11 gl11 HG11; obtain ⟨hx11_0, hf11_0⟩ := Kd.R_celln 0 HO190.out ((ji8) : Int) p11 q11; replace p11 := eq_true p11; replace q11 := eq_true q11; obtain ⟨hy20_, hz20_⟩ := Kd.R_celln 0 HO190.out ((ji8) : Int) (of_decide_eq_true (by first | (with_reducible assumption) | assumption)) (of_decide_eq_true (by first | (with_reducible assumption) | assumption)); have HP20 := Kd.R_putg HO190.out ((ji8) : Int) a1) | ((with_reducible refine gate_store (t := 5) (p := 22) rfl ?_); refine store_event (t := 5) (p := 22) (v := ?vo_w21) (w1 := (w18.setCell ⟨go11, ((ji8) : Int).toNat, none⟩ (.int .u8 a1))) ?hg ?ho ?hn ?hr ?_; (case ho => rfl); (case hg => rfl); (case hn => rfl); (case hr => first | (go_simp; done) | (go_simp; rfl)); intro w21 hw; have hg : w18.grownBy w21 (some go11) := (by rw [hw]; exact HP20.2); have hp_ : Kd.R (Kd.int .u8) 5 w21 w.heap.size (fun _ => True) (.slice (some ⟨go11, 0, none⟩) y188.length co11) y191 := (by rw [hw, Ny191.out]; exact HP20.1); clear HP20; have n0_ := Aside0.mk (hp_); have n1_ := Aside0.mk ((by rw [hw]; exact below_set (HB.out) GB11.out : Below w.heap.size w w21)); clear HO190; clear HB; have HO190 := n0_; have HB := n1_; clear n0_ n1_; clear hg hw hp_; have hcv22 := own_string (P := Try.prog) Try.underlying33 Try.underlying5 Try.underlying9 (Kd.own_of_R HO190.out)) | ((with_reducible refine gate_callee (f := 14) rfl ?_); refine goesL_ (some 26) rfl rfl Try.func14 (by kernel_rfl) rfl #[.string (strOfNums y191)] rfl (by (try simp only [List.map_toArray, List.map_cons, List.map_nil]); first | done | rfl | (simp only [List.length_drop, List.length_take]; rfl)) ?_; (with_reducible refine (sum_Wrap.calls k (strOfNums y191) t192 _ A12.out).mono ?_); rintro e w23 ⟨rfl, hb⟩; refine ⟨_, rfl, ?_⟩; have n0_ := Aside0.mk (Kd.R_below (by (with_reducible repeat (first | apply Kd.R_alloc | apply Kd.R_drewN | apply Kd.R_drew)); exact HO190.out) hb); have n1_ := Aside0.mk (below_step (by repeat (first | (with_reducible first | exact HB.out | apply below_alloc | apply pw_below_drewN | apply below_drew1) | exact HB.out)) hb); clear HO190; clear HB; have HO190 := n0_; have HB := n1_; clear n0_ n1_; (try clear hb); (try clear hb2); (try clear hk); (try clear hi)) | ((with_reducible refine gate_callee (f := 10) rfl ?_); refine goesL_ (some 27) rfl rfl Try.func10 (by kernel_rfl) rfl #[.string t192] rfl (by (try simp only [List.map_toArray, List.map_cons, List.map_nil]); first | done | rfl | (simp only [List.length_drop, List.length_take]; rfl)) ?_; (with_reducible refine (sum_Open.calls t192 t193 t194 t195 _ A13.out).mono ?_); rintro e w24 ⟨rfl, hb⟩; refine ⟨_, rfl, ?_⟩; have n0_ := Aside0.mk (Kd.R_below (by (with_reducible repeat (first | apply Kd.R_alloc | apply Kd.R_drewN | apply Kd.R_drew)); exact HO190.out) hb); have n1_ := Aside0.mk (below_step (by repeat (first | (with_reducible first | exact HB.out | apply below_alloc | apply pw_below_drewN | apply below_drew1) | exact HB.out)) hb); clear HO190; clear HB; have HO190 := n0_; have HB := n1_; clear n0_ n1_; (try clear hb); (try clear hb2); (try clear hk); (try clear hi)))
                  go_ret
                  exact ⟨by first | rfl | exact congrArg (fun b_ => Ending.returned (Value.bool b_)) HE.out | (have he_ := HE.out; simp at he_; simp [he_]; done) | (simp [errW_none, errW_some] <;> rfl) | (simp only [← hji5, ← hji8]; first | rfl | (simp [errW_none, errW_some] <;> rfl)) | (simp [*, errW_none, errW_some] <;> rfl), by repeat (first | (with_reducible first | exact HB.out | apply below_alloc | apply pw_below_drewN | apply below_drew1) | exact HB.out)⟩
                · rw [if_neg c16] at H
                  have c16b0 : (t193.toList == ([] : List UInt8)) = false := beq_eq_false_iff_ne.mpr c16
                  have c16b1 : (t193.toList != ([] : List UInt8)) = true := bne_iff_ne.mpr c16
                  exact absurd H (by simp)
              · rw [if_neg c15] at H
                have c15b0 : (t195 == 13) = false := beq_eq_false_iff_ne.mpr c15
                have c15b1 : (t195 != 13) = true := bne_iff_ne.mpr c15
                exact absurd H (by simp)
            · rw [if_neg c14] at H
              have c14b0 : decide (40000 < (ji5)) = false := decide_eq_false c14
              clear c14
              by_cases c25 : t195 = 0
              · rw [if_pos c25] at H
                have c25b0 : (t195 == 0) = true := beq_iff_eq.mpr c25
                have c25b1 : (t195 != 0) = false := bne_eq_false_iff_eq.mpr c25
                clear c25
                have HE := Aside0.mk (Option.some.inj H)
                clear H
                go_enter Try.func8, Try.ntmps8
                go_wp2_with (first | ((with_reducible refine gate_callee (f := 9) rfl ?_); refine goesL_ (some 10) rfl rfl Try.func9 (by kernel_rfl) rfl #[] rfl (by (try simp only [List.map_toArray, List.map_cons, List.map_nil]); first | done | rfl | (simp only [List.length_drop, List.length_take]; rfl)) ?_; (with_reducible refine (vedettelaw2_known.calls k  true _ A3.out).mono ?_); rintro e w26 ⟨rfl, hb⟩; refine ⟨_, rfl, ?_⟩; have n0_ := Aside0.mk (below_step (by repeat (first | (with_reducible first | exact HB.out | apply below_alloc | apply pw_below_drewN | apply below_drew1) | exact HB.out)) hb); clear HB; have HB := n0_; clear n0_; (try clear hb); (try clear hb2); (try clear hk); (try clear hi)) | ((with_reducible refine gate_dst (N := 17) rfl ?_); refine Kd.R_make (Kd.int .u8) _ 5 rfl (N := 17) rfl 33 _ _ rfl ji5 rfl rfl Try.underlying33 (.int .u8 0) 1 info5 rfl (by decide) (by omega) 0 (ok := fun _ => True) (okp := fun _ => True) rfl (fun _ hk => hk) trivial (of_decide_eq_true (by first | (with_reducible assumption) | assumption)) (Nat.le_trans (Nat.mul_le_mul_right _ (of_decide_eq_true (by first | (with_reducible assumption) | assumption) : ji5.toNat ≤ 281474976710656)) (by omega)) (Below.refl _ _) (Nat.le_refl _) ?_; intro v189 w27 ho28 hb hg_ hnew_; clear hg_ hnew_; (first | rw [← Ny188.out] at ho28 | (simp only [Int.reduceToNat] at ho28; rw [← Ny188.out] at ho28)); have n0_ := Aside0.mk (Kd.R_lower ho28 (below_size (by repeat (first | (with_reducible first | exact HB.out | apply below_alloc | apply pw_below_drewN | apply below_drew1) | exact HB.out)))); have n1_ := Aside0.mk (below_step (by repeat (first | (with_reducible first | exact HB.out | apply below_alloc | apply pw_below_drewN | apply below_drew1) | exact HB.out)) hb); clear HB; have HO190 := n0_; have HB := n1_; clear n0_ n1_; clear hb ho28; have p11 : 0 ≤ ((ji8) : Int) := of_decide_eq_true (by first | (with_reducible assumption) | assumption); have q11 : ((ji8) : Int) < ((y188.length : Int) : Int) := of_decide_eq_true (by first | (with_reducible assumption) | assumption); obtain ⟨go11, co11, eo11, gb11, gl11, cl11, HG11⟩ := Kd.R_form HO190.out (by omega); (first | cases eo11 | (injection eo11 with ea_ en_ ec_; (first | subst ea_ | (injection ea_ with ea_; subst ea_)); subst ec_; clear en_)); have GB11 := Aside0.mk gb11; have GG11 := Aside0.mk HG11; clear gb11 gl11 HG11; obtain ⟨hx11_0, hf11_0⟩ := Kd.R_celln 0 HO190.out ((ji8) : Int) p11 q11; replace p11 := eq_true p11; replace q11 := eq_true q11; obtain ⟨hy29_, hz29_⟩ := Kd.R_celln 0 HO190.out ((ji8) : Int) (of_decide_eq_true (by first | (with_reducible assumption) | assumption)) (of_decide_eq_true (by first | (with_reducible assumption) | assumption)); have HP29 := Kd.R_putg HO190.out ((ji8) : Int) a1) | ((with_reducible refine gate_store (t := 5) (p := 22) rfl ?_); refine store_event (t := 5) (p := 22) (v := ?vo_w30) (w1 := (w27.setCell ⟨go11, ((ji8) : Int).toNat, none⟩ (.int .u8 a1))) ?hg ?ho ?hn ?hr ?_; (case ho => rfl); (case hg => rfl); (case hn => rfl); (case hr => first | (go_simp; done) | (go_simp; rfl)); intro w30 hw; have hg : w27.grownBy w30 (some go11) := (by rw [hw]; exact HP29.2); have hp_ : Kd.R (Kd.int .u8) 5 w30 w.heap.size (fun _ => True) (.slice (some ⟨go11, 0, none⟩) y188.length co11) y191 := (by rw [hw, Ny191.out]; exact HP29.1); clear HP29; have n0_ := Aside0.mk (hp_); have n1_ := Aside0.mk ((by rw [hw]; exact below_set (HB.out) GB11.out : Below w.heap.size w w30)); clear HO190; clear HB; have HO190 := n0_; have HB := n1_; clear n0_ n1_; clear hg hw hp_; have hcv31 := own_string (P := Try.prog) Try.underlying33 Try.underlying5 Try.underlying9 (Kd.own_of_R HO190.out)) | ((with_reducible refine gate_callee (f := 14) rfl ?_); refine goesL_ (some 26) rfl rfl Try.func14 (by kernel_rfl) rfl #[.string (strOfNums y191)] rfl (by (try simp only [List.map_toArray, List.map_cons, List.map_nil]); first | done | rfl | (simp only [List.length_drop, List.length_take]; rfl)) ?_; (with_reducible refine (sum_Wrap.calls k (strOfNums y191) t192 _ A12.out).mono ?_); rintro e w32 ⟨rfl, hb⟩; refine ⟨_, rfl, ?_⟩; have n0_ := Aside0.mk (Kd.R_below (by (with_reducible repeat (first | apply Kd.R_alloc | apply Kd.R_drewN | apply Kd.R_drew)); exact HO190.out) hb); have n1_ := Aside0.mk (below_step (by repeat (first | (with_reducible first | exact HB.out | apply below_alloc | apply pw_below_drewN | apply below_drew1) | exact HB.out)) hb); clear HO190; clear HB; have HO190 := n0_; have HB := n1_; clear n0_ n1_; (try clear hb); (try clear hb2); (try clear hk); (try clear hi)) | ((with_reducible refine gate_callee (f := 10) rfl ?_); refine goesL_ (some 27) rfl rfl Try.func10 (by kernel_rfl) rfl #[.string t192] rfl (by (try simp only [List.map_toArray, List.map_cons, List.map_nil]); first | done | rfl | (simp only [List.length_drop, List.length_take]; rfl)) ?_; (with_reducible refine (sum_Open.calls t192 t193 t194 t195 _ A13.out).mono ?_); rintro e w33 ⟨rfl, hb⟩; refine ⟨_, rfl, ?_⟩; have n0_ := Aside0.mk (Kd.R_below (by (with_reducible repeat (first | apply Kd.R_alloc | apply Kd.R_drewN | apply Kd.R_drew)); exact HO190.out) hb); have n1_ := Aside0.mk (below_step (by repeat (first | (with_reducible first | exact HB.out | apply below_alloc | apply pw_below_drewN | apply below_drew1) | exact HB.out)) hb); clear HO190; clear HB; have HO190 := n0_; have HB := n1_; clear n0_ n1_; (try clear hb); (try clear hb2); (try clear hk); (try clear hi); have hcv34 := own_string (P := Try.prog) Try.underlying33 Try.underlying5 Try.underlying9 (Kd.own_of_R HO190.out)))
                go_ret
                exact ⟨by first | rfl | exact congrArg (fun b_ => Ending.returned (Value.bool b_)) HE.out | (have he_ := HE.out; simp at he_; simp [he_]; done) | (simp [errW_none, errW_some] <;> rfl) | (simp only [← hji5, ← hji8]; first | rfl | (simp [errW_none, errW_some] <;> rfl)) | (simp [*, errW_none, errW_some] <;> rfl), by repeat (first | (with_reducible first | exact HB.out | apply below_alloc | apply pw_below_drewN | apply below_drew1) | exact HB.out)⟩
              · rw [if_neg c25] at H
                have c25b0 : (t195 == 0) = false := beq_eq_false_iff_ne.mpr c25
                have c25b1 : (t195 != 0) = true := bne_iff_ne.mpr c25
                exact absurd H (by simp)
          · rw [if_neg c10] at H
            exact absurd H (by simp)
        · rw [if_neg c9] at H
          exact absurd H (by simp)
      · rw [if_neg c7] at H
        exact absurd H (by simp)
    · rw [if_neg c6] at H
      exact absurd H (by simp)
  · replace c4 := Bool.eq_false_iff.mpr c4
    subst c4
    have H1 : (some false) = some true := by rw [if_neg (show ¬ (false = true) by decide)] at H; try exact H
    clear H
    have H := H1
    clear H1
    exact absurd H (by simp)

/-- THE ONE PURE STATEMENT of vedettelaw2_SumSizes: yours. -/
def vedettelaw2_SumSizes.Pure : Prop := ∀ (a0 : Int) (a1 : Int), (Lit.int .u8 a0).wf = true → (Lit.int .u8 a1).wf = true → ∃ k, vedettelaw2_SumSizes.f k a0 a1 = some true
theorem vedettelaw2_SumSizes.walk (P : vedettelaw2_SumSizes.Pure) (a0 : Int) (a1 : Int) (w : World) (w0 : (Lit.int .u8 a0).wf = true) (w1 : (Lit.int .u8 a1).wf = true) :
    Calls Try.prog 8 #[.int .u8 a0, .int .u8 a1] w fun e w' => e = .returned (.bool true) ∧ Below w.heap.size w w' := by
  obtain ⟨k, h⟩ := P a0 a1 w0 w1
  refine (vedettelaw2_SumSizes.calls k a0 a1 w h).mono ?_
  rintro e w' ⟨rfl, hd⟩
  exact ⟨rfl, hd⟩

end Go.Proofs.Ytikncpfppeiplaa.Print
