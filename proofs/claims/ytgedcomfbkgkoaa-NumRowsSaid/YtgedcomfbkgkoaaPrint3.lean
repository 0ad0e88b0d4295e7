/- What functions of the program compute, and that the code does so: written by a program of the session. -/
import Derived.Test.YtgedcomfbkgkoaaPrint0
import Derived.Test.YtgedcomfbkgkoaaPrint1
namespace Go.Proofs.Ytgedcomfbkgkoaa.Print
open Go.RowKit Go.Proofs.YtgedcomfbkgkoaaW.PrintWords Go.Proofs.YtgedcomfbkgkoaaW.PrintLast Go.Proofs.YtgedcomfbkgkoaaW.PrintMore
attribute [local go_sem] max2_int min2_int max_two min_two max_three min_three max_four min_four   -- for this text's walks alone
set_option linter.unusedVariables false
set_option linter.unusedSimpArgs false

/-! ### vedettelaw1_NumRows: function 5 -/
mutual
def vedettelaw1_NumRows.j0 : Nat → List Int → List ByteArray → Bool → Option (Bool)
  | 0, _, _, _ => none
  | k + 1, x0, x1, x26 => if x26 = true then (some true) else (vedettelaw1_NumRows.l0 k x0 x1 (⟨#[]⟩ : ByteArray) 0)
def vedettelaw1_NumRows.l0 : Nat → List Int → List ByteArray → ByteArray → Int → Option (Bool)
  | 0, _, _, _, _ => none
  | k + 1, x0, x1, x5, x6 => if x6 < (x0.length : Int) then (if 0 ≤ x6 then ((num_Put.f k (rd x0 x6)).bind fun t140 => (if x5.size + t140.size ≤ 9223372036854775807 then (vedettelaw1_NumRows.l0 k x0 x1 (x5 ++ t140) (wrap64 (x6 + 1))) else (none))) else (none)) else (vedettelaw1_NumRows.l1 k x0 x1 x5 0)
def vedettelaw1_NumRows.l1 : Nat → List Int → List ByteArray → ByteArray → Int → Option (Bool)
  | 0, _, _, _, _ => none
  | k + 1, x0, x1, x5, x7 => if x7 < (x1.length : Int) then (if 0 ≤ x7 then (if ((rdOf ByteArray.empty x1 x7).size : Int) > 200 then (some true) else ((num_Text.f k (rdOf ByteArray.empty x1 x7)).bind fun t143 => (if x5.size + t143.size ≤ 9223372036854775807 then (vedettelaw1_NumRows.l1 k x0 x1 (x5 ++ t143) (wrap64 (x7 + 1))) else (none)))) else (none)) else (vedettelaw1_NumRows.l2 k x0 x1 x5 0 0)
def vedettelaw1_NumRows.l2 : Nat → List Int → List ByteArray → ByteArray → Int → Int → Option (Bool)
  | 0, _, _, _, _, _ => none
  | k + 1, x0, x1, x5, x8, x9 => if x9 < (x0.length : Int) then (if 0 ≤ x8 then (if x8 ≤ (x5.size : Int) then ((num_Get.f (x5.extract (x8 : Int).toNat x5.size)).bind fun bt144 => (if bt144.2.2 = 0 then (if 0 ≤ x9 then (if bt144.1 = (rd x0 x9) then (vedettelaw1_NumRows.l2 k x0 x1 x5 (wrap64 (x8 + bt144.2.1)) (wrap64 (x9 + 1))) else (some false)) else (none)) else (some false))) else (none)) else (none)) else (vedettelaw1_NumRows.l3 k x1 x5 x8 0)
def vedettelaw1_NumRows.l3 : Nat → List ByteArray → ByteArray → Int → Int → Option (Bool)
  | 0, _, _, _, _ => none
  | k + 1, x1, x5, x8, x13 => if x13 < (x1.length : Int) then (if 0 ≤ x8 then (if x8 ≤ (x5.size : Int) then ((num_Texts.f (x5.extract (x8 : Int).toNat x5.size) 200).bind fun bt148 => (if bt148.2.2 = 0 then (if 0 ≤ x13 then (if bt148.1.toList = (rdOf ByteArray.empty x1 x13).toList then (vedettelaw1_NumRows.l3 k x1 x5 (wrap64 (x8 + bt148.2.1)) (wrap64 (x13 + 1))) else (some false)) else (none)) else (some false))) else (none)) else (none)) else (some (x8 == (x5.size : Int)))
end
def vedettelaw1_NumRows.f (k : Nat) (l0 : List Int) (l1 : List ByteArray) : Option (Bool) := (vedettelaw1_known.f k).bind fun t138 => (if t138 = true then (if (l0.length : Int) > 20 then (vedettelaw1_NumRows.j0 k l0 l1 true) else (vedettelaw1_NumRows.j0 k l0 l1 (decide ((l1.length : Int) > 20)))) else (some false))
theorem vedettelaw1_NumRows.mono_l : ∀ k, (∀ y0 y1 y2, LeO (vedettelaw1_NumRows.j0 k y0 y1 y2) (vedettelaw1_NumRows.j0 (k + 1) y0 y1 y2)) ∧ (∀ y0 y1 y2 y3, LeO (vedettelaw1_NumRows.l0 k y0 y1 y2 y3) (vedettelaw1_NumRows.l0 (k + 1) y0 y1 y2 y3)) ∧ (∀ y0 y1 y2 y3, LeO (vedettelaw1_NumRows.l1 k y0 y1 y2 y3) (vedettelaw1_NumRows.l1 (k + 1) y0 y1 y2 y3)) ∧ (∀ y0 y1 y2 y3 y4, LeO (vedettelaw1_NumRows.l2 k y0 y1 y2 y3 y4) (vedettelaw1_NumRows.l2 (k + 1) y0 y1 y2 y3 y4)) ∧ (∀ y0 y1 y2 y3, LeO (vedettelaw1_NumRows.l3 k y0 y1 y2 y3) (vedettelaw1_NumRows.l3 (k + 1) y0 y1 y2 y3))
  | 0 => ⟨fun _ _ _ r h => by simp [vedettelaw1_NumRows.j0] at h, fun _ _ _ _ r h => by simp [vedettelaw1_NumRows.l0] at h, fun _ _ _ _ r h => by simp [vedettelaw1_NumRows.l1] at h, fun _ _ _ _ _ r h => by simp [vedettelaw1_NumRows.l2] at h, fun _ _ _ _ r h => by simp [vedettelaw1_NumRows.l3] at h⟩
  | k + 1 => by
    obtain ⟨ih0, ih1, ih2, ih3, ih4⟩ := vedettelaw1_NumRows.mono_l k
    refine ⟨?_, ?_, ?_, ?_, ?_⟩
    · intro y0 y1 y2
      unfold vedettelaw1_NumRows.j0
      repeat' first
      | (with_reducible exact ih0 _ _ _)
      | (with_reducible exact ih1 _ _ _ _)
      | (with_reducible exact ih2 _ _ _ _)
      | (with_reducible exact ih3 _ _ _ _ _)
      | (with_reducible exact ih4 _ _ _ _)
      | (with_reducible exact num_Put.mono _ _)
      | (with_reducible exact num_Text.mono _ _)
      | (with_reducible exact vedettelaw1_known.mono _)
      | (with_reducible exact LeO.refl _)
      | (with_reducible exact LeO.none _)
      | (with_reducible refine LeO.ite ?_ ?_)
      | (with_reducible refine LeO.bind ?_ (fun _ => ?_))
      | exact ih0 _ _ _
      | exact ih1 _ _ _ _
      | exact ih2 _ _ _ _
      | exact ih3 _ _ _ _ _
      | exact ih4 _ _ _ _
      | exact num_Put.mono _ _
      | exact num_Text.mono _ _
      | exact vedettelaw1_known.mono _
      | exact LeO.none _
      | refine LeO.ite ?_ ?_
      | refine LeO.bind ?_ (fun _ => ?_)
    · intro y0 y1 y2 y3
      unfold vedettelaw1_NumRows.l0
      repeat' first
      | (with_reducible exact ih0 _ _ _)
      | (with_reducible exact ih1 _ _ _ _)
      | (with_reducible exact ih2 _ _ _ _)
      | (with_reducible exact ih3 _ _ _ _ _)
      | (with_reducible exact ih4 _ _ _ _)
      | (with_reducible exact num_Put.mono _ _)
      | (with_reducible exact num_Text.mono _ _)
      | (with_reducible exact vedettelaw1_known.mono _)
      | (with_reducible exact LeO.refl _)
      | (with_reducible exact LeO.none _)
      | (with_reducible refine LeO.ite ?_ ?_)
      | (with_reducible refine LeO.bind ?_ (fun _ => ?_))
      | exact ih0 _ _ _
      | exact ih1 _ _ _ _
      | exact ih2 _ _ _ _
      | exact ih3 _ _ _ _ _
      | exact ih4 _ _ _ _
      | exact num_Put.mono _ _
      | exact num_Text.mono _ _
      | exact vedettelaw1_known.mono _
      | exact LeO.none _
      | refine LeO.ite ?_ ?_
      | refine LeO.bind ?_ (fun _ => ?_)
    · intro y0 y1 y2 y3
      unfold vedettelaw1_NumRows.l1
      repeat' first
      | (with_reducible exact ih0 _ _ _)
      | (with_reducible exact ih1 _ _ _ _)
      | (with_reducible exact ih2 _ _ _ _)
      | (with_reducible exact ih3 _ _ _ _ _)
      | (with_reducible exact ih4 _ _ _ _)
      | (with_reducible exact num_Put.mono _ _)
      | (with_reducible exact num_Text.mono _ _)
      | (with_reducible exact vedettelaw1_known.mono _)
      | (with_reducible exact LeO.refl _)
      | (with_reducible exact LeO.none _)
      | (with_reducible refine LeO.ite ?_ ?_)
      | (with_reducible refine LeO.bind ?_ (fun _ => ?_))
      | exact ih0 _ _ _
      | exact ih1 _ _ _ _
      | exact ih2 _ _ _ _
      | exact ih3 _ _ _ _ _
      | exact ih4 _ _ _ _
      | exact num_Put.mono _ _
      | exact num_Text.mono _ _
      | exact vedettelaw1_known.mono _
      | exact LeO.none _
      | refine LeO.ite ?_ ?_
      | refine LeO.bind ?_ (fun _ => ?_)
    · intro y0 y1 y2 y3 y4
      unfold vedettelaw1_NumRows.l2
      repeat' first
      | (with_reducible exact ih0 _ _ _)
      | (with_reducible exact ih1 _ _ _ _)
      | (with_reducible exact ih2 _ _ _ _)
      | (with_reducible exact ih3 _ _ _ _ _)
      | (with_reducible exact ih4 _ _ _ _)
      | (with_reducible exact num_Put.mono _ _)
      | (with_reducible exact num_Text.mono _ _)
      | (with_reducible exact vedettelaw1_known.mono _)
      | (with_reducible exact LeO.refl _)
      | (with_reducible exact LeO.none _)
      | (with_reducible refine LeO.ite ?_ ?_)
      | (with_reducible refine LeO.bind ?_ (fun _ => ?_))
      | exact ih0 _ _ _
      | exact ih1 _ _ _ _
      | exact ih2 _ _ _ _
      | exact ih3 _ _ _ _ _
      | exact ih4 _ _ _ _
      | exact num_Put.mono _ _
      | exact num_Text.mono _ _
      | exact vedettelaw1_known.mono _
      | exact LeO.none _
      | refine LeO.ite ?_ ?_
      | refine LeO.bind ?_ (fun _ => ?_)
    · intro y0 y1 y2 y3
      unfold vedettelaw1_NumRows.l3
      repeat' first
      | (with_reducible exact ih0 _ _ _)
      | (with_reducible exact ih1 _ _ _ _)
      | (with_reducible exact ih2 _ _ _ _)
      | (with_reducible exact ih3 _ _ _ _ _)
      | (with_reducible exact ih4 _ _ _ _)
      | (with_reducible exact num_Put.mono _ _)
      | (with_reducible exact num_Text.mono _ _)
      | (with_reducible exact vedettelaw1_known.mono _)
      | (with_reducible exact LeO.refl _)
      | (with_reducible exact LeO.none _)
      | (with_reducible refine LeO.ite ?_ ?_)
      | (with_reducible refine LeO.bind ?_ (fun _ => ?_))
      | exact ih0 _ _ _
      | exact ih1 _ _ _ _
      | exact ih2 _ _ _ _
      | exact ih3 _ _ _ _ _
      | exact ih4 _ _ _ _
      | exact num_Put.mono _ _
      | exact num_Text.mono _ _
      | exact vedettelaw1_known.mono _
      | exact LeO.none _
      | refine LeO.ite ?_ ?_
      | refine LeO.bind ?_ (fun _ => ?_)
theorem vedettelaw1_NumRows.mono : ∀ a0 a1 k, LeO (vedettelaw1_NumRows.f k a0 a1) (vedettelaw1_NumRows.f (k + 1) a0 a1) := by
  intro a0 a1 k
  obtain ⟨ih0, ih1, ih2, ih3, ih4⟩ := vedettelaw1_NumRows.mono_l k
  unfold vedettelaw1_NumRows.f
  repeat' first
      | (with_reducible exact ih0 _ _ _)
      | (with_reducible exact ih1 _ _ _ _)
      | (with_reducible exact ih2 _ _ _ _)
      | (with_reducible exact ih3 _ _ _ _ _)
      | (with_reducible exact ih4 _ _ _ _)
      | (with_reducible exact num_Put.mono _ _)
      | (with_reducible exact num_Text.mono _ _)
      | (with_reducible exact vedettelaw1_known.mono _)
      | (with_reducible exact LeO.refl _)
      | (with_reducible exact LeO.none _)
      | (with_reducible refine LeO.ite ?_ ?_)
      | (with_reducible refine LeO.bind ?_ (fun _ => ?_))
      | exact ih0 _ _ _
      | exact ih1 _ _ _ _
      | exact ih2 _ _ _ _
      | exact ih3 _ _ _ _ _
      | exact ih4 _ _ _ _
      | exact num_Put.mono _ _
      | exact num_Text.mono _ _
      | exact vedettelaw1_known.mono _
      | exact LeO.none _
      | refine LeO.ite ?_ ?_
      | refine LeO.bind ?_ (fun _ => ?_)
set_option maxHeartbeats 8000000 in
set_option maxRecDepth 100000 in
theorem vedettelaw1_NumRows.calls (k : Nat) (A0 : Option Addr) (c0 : Nat) (l0 : List Int) (A1 : Option Addr) (c1 : Nat) (l1 : List ByteArray) (w : World) (hr0 : Kd.C (Kd.int .u64) w A0 l0.length l0) (hc0 : l0.length ≤ c0) (hr1 : Kd.C Kd.string w A1 l1.length l1) (hc1 : l1.length ≤ c1) (h : vedettelaw1_NumRows.f k l0 l1 = some true) :
    Calls Try.prog 5 #[.slice A0 l0.length c0, .slice A1 l1.length c1] w fun e w' => e = .returned (.bool true) ∧ Below w.heap.size w w' := by
  have HR0 := Aside0.mk hr0
  have HC0 := Aside0.mk hc0
  clear hr0 hc0
  have HR1 := Aside0.mk hr1
  have HC1 := Aside0.mk hc1
  clear hr1 hc1
  have HB := Aside0.mk (Below.refl w.heap.size w)
  have H : ((vedettelaw1_known.f k).bind fun t138 => (if t138 = true then (if (l0.length : Int) > 20 then (vedettelaw1_NumRows.j0 k l0 l1 true) else (vedettelaw1_NumRows.j0 k l0 l1 (decide ((l1.length : Int) > 20)))) else (some false))) = some true := h
  clear h
  replace H := Option.bind_eq_some_iff.mp H
  obtain ⟨t138, A30, H⟩ := H
  replace H : (if t138 = true then (if (l0.length : Int) > 20 then (vedettelaw1_NumRows.j0 k l0 l1 true) else (vedettelaw1_NumRows.j0 k l0 l1 (decide ((l1.length : Int) > 20)))) else (some false)) = some true := H
  have A3 := Aside0.mk A30
  clear A30
  by_cases c4 : t138 = true
  · subst c4
    have H1 : (if (l0.length : Int) > 20 then (vedettelaw1_NumRows.j0 k l0 l1 true) else (vedettelaw1_NumRows.j0 k l0 l1 (decide ((l1.length : Int) > 20)))) = some true := by rw [if_pos rfl] at H; try exact H
    clear H
    have H := H1
    clear H1
    have HC5 := Aside0.mk H
    clear H
    go_enter Try.func5, Try.ntmps5
    go_upto_region 3 with (first | ((with_reducible refine gate_callee (f := 9) rfl ?_); refine goesL_ (some 17) rfl rfl Try.func9 (by kernel_rfl) rfl #[] rfl (by (try simp only [List.map_toArray, List.map_cons, List.map_nil]); first | done | rfl | (simp only [List.length_drop, List.length_take]; rfl)) ?_; (with_reducible refine (vedettelaw1_known.calls k  true _ A3.out).mono ?_); rintro e w6 ⟨rfl, hb⟩; refine ⟨_, rfl, ?_⟩; have n0_ := Aside0.mk (below_step (by repeat (first | (with_reducible first | exact HB.out | apply below_alloc | apply pw_below_drewN | apply below_drew1) | exact HB.out)) hb); clear HB; have HB := n0_; clear n0_; (try clear hb); (try clear hb2); (try clear hk); (try clear hi)))
    (try simp only [Act.put, List.setIfInBounds_toArray, List.set_cons_zero, List.set_cons_succ])
    go_cut [26] (fun v26 wc => ∃ (kq : Nat) (x26_4 : Bool), v26 = .bool x26_4 ∧ Aside0 (vedettelaw1_NumRows.j0 kq l0 l1 x26_4 = some true) ∧ Aside0 (kq ≤ k) ∧ Aside0 (Below w.heap.size w wc))
    case first =>
      have H := HC5.out
      clear HC5
      by_cases c7 : (l0.length : Int) > 20
      · rw [if_pos c7] at H
        have c7b0 : decide (20 < (l0.length : Int)) = true := decide_eq_true c7
        have c7b1 : decide (20 < l0.length) = true := decide_eq_true (by omega)
        clear c7
        (first | rw [c7b0] | (simp only [i64_w, i32_w]; rw [c7b0]) | skip)
        have H' := Aside0.mk H
        clear H
        go_wp2
        go_meet
        case rel => exact ⟨_, (true), (by first | rfl | (simp; done) | (simp [*]; done)), H', ⟨by first | omega | exact Nat.le_refl _⟩, ⟨by repeat (first | (with_reducible first | exact HB.out | apply below_alloc | apply pw_below_drewN | apply below_drew1) | exact HB.out)⟩⟩
      · rw [if_neg c7] at H
        have c7b0 : decide (20 < (l0.length : Int)) = false := decide_eq_false c7
        have c7b1 : decide (20 < l0.length) = false := decide_eq_false (by omega)
        clear c7
        (first | rw [c7b0] | (simp only [i64_w, i32_w]; rw [c7b0]) | skip)
        have H' := Aside0.mk H
        clear H
        go_wp2
        go_meet
        case rel => exact ⟨_, (decide ((l1.length : Int) > 20)), (by first | rfl | (simp; done) | (simp [*]; done)), H', ⟨by first | omega | exact Nat.le_refl _⟩, ⟨by repeat (first | (with_reducible first | exact HB.out | apply below_alloc | apply pw_below_drewN | apply below_drew1) | exact HB.out)⟩⟩
    case rest =>
      clear HC5
      try clear c1
      try clear p2
      try clear c4
      try clear c5
      try clear c7
      try clear c7b0
      try clear c7b1
      obtain ⟨kq, x26_4, rfl, HA, HJ4, HB⟩ := hcut
      cases kq with
      | zero => exact absurd HA.out (by simp [vedettelaw1_NumRows.j0])
      | succ kj4 =>
        have H := HA.out
        clear HA
        simp only [vedettelaw1_NumRows.j0] at H
        by_cases c8 : x26_4 = true
        · subst c8
          have H1 : (some true) = some true := by rw [if_pos rfl] at H; try exact H
          clear H
          have H := H1
          clear H1
          clear H
          go_wp2
          go_ret
          exact ⟨by first | rfl | exact congrArg (fun b_ => Ending.returned (Value.bool b_)) HE.out | (have he_ := HE.out; simp at he_; simp [he_]; done) | (simp [errW_none, errW_some] <;> rfl) | (simp [*, errW_none, errW_some] <;> rfl), by repeat (first | (with_reducible first | exact HB.out | apply below_alloc | apply pw_below_drewN | apply below_drew1) | exact HB.out)⟩
        · replace c8 := Bool.eq_false_iff.mpr c8
          subst c8
          have H1 : (vedettelaw1_NumRows.l0 kj4 l0 l1 (⟨#[]⟩ : ByteArray) 0) = some true := by rw [if_neg (show ¬ (false = true) by decide)] at H; try exact H
          clear H
          have H := H1
          clear H1
          have H' := Aside0.mk H
          clear H
          go_wp2
          go_loopg [5, 6] kj4 (fun kq v5 v6 w' => ∃ (x5_2 : ByteArray) (x6_2 : Int), v5 = .string x5_2 ∧ v6 = .int .i64 x6_2 ∧ Aside0 (vedettelaw1_NumRows.l0 kq l0 l1 x5_2 x6_2 = some true) ∧ Aside0 (kq ≤ kj4) ∧ Aside0 (Below w.heap.size w w'))
          case atStart => exact ⟨((⟨#[]⟩ : ByteArray)), (0), (by first | rfl | (simp; done) | (simp [*]; done)), (by first | rfl | (simp; done) | (simp [*]; done)), H', ⟨Nat.le_refl _⟩, ⟨by repeat (first | (with_reducible first | exact HB.out | apply below_alloc | apply pw_below_drewN | apply below_drew1) | exact HB.out)⟩⟩
          case round =>
            clear H'
            try clear c1
            try clear p2
            try clear c4
            try clear c5
            try clear c7
            try clear c7b0
            try clear c7b1
            try clear c8
            try clear p2
            obtain ⟨x5_2, x6_2, rfl, rfl, HA, HK2, HB⟩ := hrel
            cases gk with
            | zero => exact absurd HA.out (by simp [vedettelaw1_NumRows.l0])
            | succ k2 =>
              have H := HA.out
              clear HA
              simp only [vedettelaw1_NumRows.l0] at H
              by_cases c9 : x6_2 < (l0.length : Int)
              · rw [if_pos c9] at H
                have c9b0 : decide (x6_2 < (l0.length : Int)) = true := decide_eq_true c9
                clear c9
                by_cases c10 : 0 ≤ x6_2
                · rw [if_pos c10] at H
                  have c10b0 : decide (0 ≤ x6_2) = true := decide_eq_true c10
                  clear c10
                  replace H := Option.bind_eq_some_iff.mp H
                  obtain ⟨t140, A110, H⟩ := H
                  replace H : (if x5_2.size + t140.size ≤ 9223372036854775807 then (vedettelaw1_NumRows.l0 k2 l0 l1 (x5_2 ++ t140) (wrap64 (x6_2 + 1))) else (none)) = some true := H
                  have A11 := Aside0.mk A110
                  clear A110
                  by_cases c12 : x5_2.size + t140.size ≤ 9223372036854775807
                  · rw [if_pos c12] at H
                    have c12b0 := eq_true c12
                    have c12b1 : decide (x5_2.size + t140.size ≤ 9223372036854775807) = true := decide_eq_true c12
                    try have c12b2 : (9223372036854775807 < x5_2.size + t140.size) = False := eq_false (Nat.not_lt.2 c12)
                    clear c12
                    have H' := Aside0.mk H
                    clear H
                    have p139 : 0 ≤ (x6_2 : Int) := of_decide_eq_true (by first | (with_reducible assumption) | assumption)
                    have q139 : x6_2 < (l0.length : Int) := of_decide_eq_true (by first | (with_reducible assumption) | assumption)
                    obtain ⟨ad139, e139, hx139_0⟩ := Kd.at_int HR0.out x6_2 p139 q139
                    cases e139
                    replace hx139_0 := (HB.out.cell (World.block_lt_of_cell? w _ hx139_0)).trans hx139_0
                    replace p139 := eq_true p139
                    replace q139 := eq_true q139
                    go_wp2_with (first | ((with_reducible refine gate_callee (f := 10) rfl ?_); refine goesL_ (some 38) rfl rfl Try.func10 (by kernel_rfl) rfl #[.int .u64 (rd l0 x6_2)] rfl (by (try simp only [List.map_toArray, List.map_cons, List.map_nil]); first | done | rfl | (simp only [List.length_drop, List.length_take]; rfl)) ?_; (with_reducible refine (num_Put.calls k2 (rd l0 x6_2) t140 _ A11.out).mono ?_); rintro e w13 ⟨rfl, hb⟩; refine ⟨_, rfl, ?_⟩; have n0_ := Aside0.mk (below_step (by repeat (first | (with_reducible first | exact HB.out | apply below_alloc | apply pw_below_drewN | apply below_drew1) | exact HB.out)) hb); clear HB; have HB := n0_; clear n0_; (try clear hb); (try clear hb2); (try clear hk); (try clear hi)))
                    go_roundg k2
                    case measure => have := HJ4.out; have := HK2.out; omega
                    case rel => exact ⟨(x5_2 ++ t140), (wrap64 (x6_2 + 1)), (by first | rfl | (simp; done) | (simp [*]; done)), (by first | rfl | (simp; done) | (simp [*]; done)), H', ⟨by have := HJ4.out; have := HK2.out; omega⟩, ⟨by repeat (first | (with_reducible first | exact HB.out | apply below_alloc | apply pw_below_drewN | apply below_drew1) | exact HB.out)⟩⟩
                  · rw [if_neg c12] at H
                    exact absurd H (by simp)
                · rw [if_neg c10] at H
                  exact absurd H (by simp)
              · rw [if_neg c9] at H
                have c9b0 : decide (x6_2 < (l0.length : Int)) = false := decide_eq_false c9
                clear c9
                have H' := Aside0.mk H
                clear H
                go_wp2
                go_loopg [5, 7] k2 (fun kq v5 v7 w' => ∃ (x5_3 : ByteArray) (x7_3 : Int), v5 = .string x5_3 ∧ v7 = .int .i64 x7_3 ∧ Aside0 (vedettelaw1_NumRows.l1 kq l0 l1 x5_3 x7_3 = some true) ∧ Aside0 (kq ≤ k2) ∧ Aside0 (Below w.heap.size w w'))
                case atStart => exact ⟨(x5_2), (0), (by first | rfl | (simp; done) | (simp [*]; done)), (by first | rfl | (simp; done) | (simp [*]; done)), H', ⟨Nat.le_refl _⟩, ⟨by repeat (first | (with_reducible first | exact HB.out | apply below_alloc | apply pw_below_drewN | apply below_drew1) | exact HB.out)⟩⟩
                case round =>
                  clear H'
                  try clear c1
                  try clear p1
                  try clear q1
                  try clear hx1
                  try clear p2
                  try clear c4
                  try clear c5
                  try clear p6
                  try clear c7
                  try clear c7b0
                  try clear c7b1
                  try clear c8
                  try clear c9
                  try clear c9b0
                  try clear c10
                  try clear c10b0
                  try clear c12
                  try clear c12b0
                  try clear c12b1
                  try clear c12b2
                  try clear p13
                  try clear q13
                  try clear hx13
                  try clear hx139_0
                  try clear p139
                  try clear p2
                  try clear q139
                  obtain ⟨x5_3, x7_3, rfl, rfl, HA, HK3, HB⟩ := hrel
                  cases gk with
                  | zero => exact absurd HA.out (by simp [vedettelaw1_NumRows.l1])
                  | succ k3 =>
                    have H := HA.out
                    clear HA
                    simp only [vedettelaw1_NumRows.l1] at H
                    by_cases c14 : x7_3 < (l1.length : Int)
                    · rw [if_pos c14] at H
                      have c14b0 : decide (x7_3 < (l1.length : Int)) = true := decide_eq_true c14
                      clear c14
                      by_cases c15 : 0 ≤ x7_3
                      · rw [if_pos c15] at H
                        have c15b0 : decide (0 ≤ x7_3) = true := decide_eq_true c15
                        clear c15
                        by_cases c16 : ((rdOf ByteArray.empty l1 x7_3).size : Int) > 200
                        · rw [if_pos c16] at H
                          have c16b0 : decide (200 < ((rdOf ByteArray.empty l1 x7_3).size : Int)) = true := decide_eq_true c16
                          have c16b1 : decide (200 < (rdOf ByteArray.empty l1 x7_3).size) = true := decide_eq_true (by omega)
                          clear c16
                          clear H
                          have p141 : 0 ≤ (x7_3 : Int) := of_decide_eq_true (by first | (with_reducible assumption) | assumption)
                          have q141 : x7_3 < (l1.length : Int) := of_decide_eq_true (by first | (with_reducible assumption) | assumption)
                          obtain ⟨ad141, e141, hx141_0⟩ := Kd.at_string HR1.out x7_3 p141 q141
                          cases e141
                          replace hx141_0 := (HB.out.cell (World.block_lt_of_cell? w _ hx141_0)).trans hx141_0
                          replace p141 := eq_true p141
                          replace q141 := eq_true q141
                          go_wp2
                          go_ret
                          exact ⟨by first | rfl | exact congrArg (fun b_ => Ending.returned (Value.bool b_)) HE.out | (have he_ := HE.out; simp at he_; simp [he_]; done) | (simp [errW_none, errW_some] <;> rfl) | (simp [*, errW_none, errW_some] <;> rfl), by repeat (first | (with_reducible first | exact HB.out | apply below_alloc | apply pw_below_drewN | apply below_drew1) | exact HB.out)⟩
                        · rw [if_neg c16] at H
                          have c16b0 : decide (200 < ((rdOf ByteArray.empty l1 x7_3).size : Int)) = false := decide_eq_false c16
                          have c16b1 : decide (200 < (rdOf ByteArray.empty l1 x7_3).size) = false := decide_eq_false (by omega)
                          clear c16
                          replace H := Option.bind_eq_some_iff.mp H
                          obtain ⟨t143, A170, H⟩ := H
                          replace H : (if x5_3.size + t143.size ≤ 9223372036854775807 then (vedettelaw1_NumRows.l1 k3 l0 l1 (x5_3 ++ t143) (wrap64 (x7_3 + 1))) else (none)) = some true := H
                          have A17 := Aside0.mk A170
                          clear A170
                          by_cases c18 : x5_3.size + t143.size ≤ 9223372036854775807
                          · rw [if_pos c18] at H
                            have c18b0 := eq_true c18
                            have c18b1 : decide (x5_3.size + t143.size ≤ 9223372036854775807) = true := decide_eq_true c18
                            try have c18b2 : (9223372036854775807 < x5_3.size + t143.size) = False := eq_false (Nat.not_lt.2 c18)
                            clear c18
                            have H' := Aside0.mk H
                            clear H
                            have p141 : 0 ≤ (x7_3 : Int) := of_decide_eq_true (by first | (with_reducible assumption) | assumption)
                            have q141 : x7_3 < (l1.length : Int) := of_decide_eq_true (by first | (with_reducible assumption) | assumption)
                            obtain ⟨ad141, e141, hx141_0⟩ := Kd.at_string HR1.out x7_3 p141 q141
                            cases e141
                            replace hx141_0 := (HB.out.cell (World.block_lt_of_cell? w _ hx141_0)).trans hx141_0
                            replace p141 := eq_true p141
                            replace q141 := eq_true q141
                            have p142 : 0 ≤ (x7_3 : Int) := of_decide_eq_true (by first | (with_reducible assumption) | assumption)
                            have q142 : x7_3 < (l1.length : Int) := of_decide_eq_true (by first | (with_reducible assumption) | assumption)
                            obtain ⟨ad142, e142, hx142_0⟩ := Kd.at_string HR1.out x7_3 p142 q142
                            obtain rfl : ad141 = ad142 := (by injection e142)
                            replace hx142_0 := (HB.out.cell (World.block_lt_of_cell? w _ hx142_0)).trans hx142_0
                            replace p142 := eq_true p142
                            replace q142 := eq_true q142
                            go_wp2_with (first | ((with_reducible refine gate_callee (f := 11) rfl ?_); refine goesL_ (some 57) rfl rfl Try.func11 (by kernel_rfl) rfl #[.string (rdOf ByteArray.empty l1 x7_3)] rfl (by (try simp only [List.map_toArray, List.map_cons, List.map_nil]); first | done | rfl | (simp only [List.length_drop, List.length_take]; rfl)) ?_; (with_reducible refine (num_Text.calls k3 (rdOf ByteArray.empty l1 x7_3) t143 _ A17.out).mono ?_); rintro e w19 ⟨rfl, hb⟩; refine ⟨_, rfl, ?_⟩; have n0_ := Aside0.mk (below_step (by repeat (first | (with_reducible first | exact HB.out | apply below_alloc | apply pw_below_drewN | apply below_drew1) | exact HB.out)) hb); clear HB; have HB := n0_; clear n0_; (try clear hb); (try clear hb2); (try clear hk); (try clear hi)))
                            go_roundg k3
                            case measure => have := HJ4.out; have := HK2.out; have := HK3.out; omega
                            case rel => exact ⟨(x5_3 ++ t143), (wrap64 (x7_3 + 1)), (by first | rfl | (simp; done) | (simp [*]; done)), (by first | rfl | (simp; done) | (simp [*]; done)), H', ⟨by have := HJ4.out; have := HK2.out; have := HK3.out; omega⟩, ⟨by repeat (first | (with_reducible first | exact HB.out | apply below_alloc | apply pw_below_drewN | apply below_drew1) | exact HB.out)⟩⟩
                          · rw [if_neg c18] at H
                            exact absurd H (by simp)
                      · rw [if_neg c15] at H
                        exact absurd H (by simp)
                    · rw [if_neg c14] at H
                      have c14b0 : decide (x7_3 < (l1.length : Int)) = false := decide_eq_false c14
                      clear c14
                      have H' := Aside0.mk H
                      clear H
                      go_wp2
                      go_loopg [8, 9] k3 (fun kq v8 v9 w' => ∃ (x8_4 : Int) (x9_4 : Int), v8 = .int .i64 x8_4 ∧ v9 = .int .i64 x9_4 ∧ Aside0 (vedettelaw1_NumRows.l2 kq l0 l1 x5_3 x8_4 x9_4 = some true) ∧ Aside0 (kq ≤ k3) ∧ Aside0 (Below w.heap.size w w'))
                      case atStart => exact ⟨(0), (0), (by first | rfl | (simp; done) | (simp [*]; done)), (by first | rfl | (simp; done) | (simp [*]; done)), H', ⟨Nat.le_refl _⟩, ⟨by repeat (first | (with_reducible first | exact HB.out | apply below_alloc | apply pw_below_drewN | apply below_drew1) | exact HB.out)⟩⟩
                      case round =>
                        clear H'
                        try clear c1
                        try clear p1
                        try clear q1
                        try clear hx1
                        try clear p2
                        try clear c4
                        try clear c5
                        try clear p6
                        try clear c7
                        try clear c7b0
                        try clear c7b1
                        try clear c8
                        try clear c9
                        try clear c9b0
                        try clear c10
                        try clear c10b0
                        try clear c11
                        try clear c12
                        try clear c12b0
                        try clear c12b1
                        try clear c12b2
                        try clear p13
                        try clear q13
                        try clear hx13
                        try clear c14
                        try clear c14b0
                        try clear p14
                        try clear q14
                        try clear hx14
                        try clear c15
                        try clear c15b0
                        try clear c16
                        try clear c16b0
                        try clear c16b1
                        try clear c18
                        try clear c18b0
                        try clear c18b1
                        try clear c18b2
                        try clear hx139_0
                        try clear hx141_0
                        try clear hx142_0
                        try clear p1
                        try clear p13
                        try clear p139
                        try clear p141
                        try clear p142
                        try clear p2
                        try clear p6
                        try clear q1
                        try clear q13
                        try clear q139
                        try clear q141
                        try clear q142
                        obtain ⟨x8_4, x9_4, rfl, rfl, HA, HK4, HB⟩ := hrel
                        cases gk with
                        | zero => exact absurd HA.out (by simp [vedettelaw1_NumRows.l2])
                        | succ k4 =>
                          have H := HA.out
                          clear HA
                          simp only [vedettelaw1_NumRows.l2] at H
                          by_cases c20 : x9_4 < (l0.length : Int)
                          · rw [if_pos c20] at H
                            have c20b0 : decide (x9_4 < (l0.length : Int)) = true := decide_eq_true c20
                            clear c20
                            by_cases c21 : 0 ≤ x8_4
                            · rw [if_pos c21] at H
                              have c21b0 := eq_true c21
                              have c21b1 : decide (0 ≤ x8_4) = true := decide_eq_true c21
                              clear c21
                              by_cases c22 : x8_4 ≤ (x5_3.size : Int)
                              · rw [if_pos c22] at H
                                have c22b0 := eq_true c22
                                have c22b1 : decide (x8_4 ≤ (x5_3.size : Int)) = true := decide_eq_true c22
                                clear c22
                                replace H := Option.bind_eq_some_iff.mp H
                                obtain ⟨⟨t144, t145, t146⟩, A230, H⟩ := H
                                replace H : (if t146 = 0 then (if 0 ≤ x9_4 then (if t144 = (rd l0 x9_4) then (vedettelaw1_NumRows.l2 k4 l0 l1 x5_3 (wrap64 (x8_4 + t145)) (wrap64 (x9_4 + 1))) else (some false)) else (none)) else (some false)) = some true := H
                                have A23 := Aside0.mk A230
                                clear A230
                                by_cases c24 : t146 = 0
                                · rw [if_pos c24] at H
                                  have c24b0 : (t146 == 0) = true := beq_iff_eq.mpr c24
                                  have c24b1 : (t146 != 0) = false := bne_eq_false_iff_eq.mpr c24
                                  clear c24
                                  by_cases c25 : 0 ≤ x9_4
                                  · rw [if_pos c25] at H
                                    have c25b0 : decide (0 ≤ x9_4) = true := decide_eq_true c25
                                    clear c25
                                    by_cases c26 : t144 = (rd l0 x9_4)
                                    · rw [if_pos c26] at H
                                      have c26b0 : (t144 == (rd l0 x9_4)) = true := beq_iff_eq.mpr c26
                                      have c26b1 : (t144 != (rd l0 x9_4)) = false := bne_eq_false_iff_eq.mpr c26
                                      clear c26
                                      have H' := Aside0.mk H
                                      clear H
                                      go_wp2_with (first | ((with_reducible refine gate_callee (f := 12) rfl ?_); refine goesL_ (some 69) rfl rfl Try.func12 (by kernel_rfl) rfl #[.string (x5_3.extract (x8_4 : Int).toNat x5_3.size)] rfl (by (try simp only [List.map_toArray, List.map_cons, List.map_nil]); first | done | rfl | (simp only [List.length_drop, List.length_take]; rfl)) ?_; (with_reducible refine (num_Get.calls (x5_3.extract (x8_4 : Int).toNat x5_3.size) t144 t145 t146 _ A23.out).mono ?_); rintro e w27 ⟨rfl, hb⟩; refine ⟨_, rfl, ?_⟩; have n0_ := Aside0.mk (below_step (by repeat (first | (with_reducible first | exact HB.out | apply below_alloc | apply pw_below_drewN | apply below_drew1) | exact HB.out)) hb); clear HB; have HB := n0_; clear n0_; (try clear hb); (try clear hb2); (try clear hk); (try clear hi); have p147 : 0 ≤ (x9_4 : Int) := of_decide_eq_true (by first | (with_reducible assumption) | assumption); have q147 : x9_4 < (l0.length : Int) := of_decide_eq_true (by first | (with_reducible assumption) | assumption); obtain ⟨ad147, e147, hx147_0⟩ := Kd.at_int HR0.out x9_4 p147 q147; cases e147; replace hx147_0 := (HB.out.cell (World.block_lt_of_cell? w _ hx147_0)).trans hx147_0; replace p147 := eq_true p147; replace q147 := eq_true q147))
                                      go_roundg k4
                                      case measure => have := HJ4.out; have := HK2.out; have := HK3.out; have := HK4.out; omega
                                      case rel => exact ⟨(wrap64 (x8_4 + t145)), (wrap64 (x9_4 + 1)), (by first | rfl | (simp; done) | (simp [*]; done)), (by first | rfl | (simp; done) | (simp [*]; done)), H', ⟨by have := HJ4.out; have := HK2.out; have := HK3.out; have := HK4.out; omega⟩, ⟨by repeat (first | (with_reducible first | exact HB.out | apply below_alloc | apply pw_below_drewN | apply below_drew1) | exact HB.out)⟩⟩
                                    · rw [if_neg c26] at H
                                      have c26b0 : (t144 == (rd l0 x9_4)) = false := beq_eq_false_iff_ne.mpr c26
                                      have c26b1 : (t144 != (rd l0 x9_4)) = true := bne_iff_ne.mpr c26
                                      exact absurd H (by simp)
                                  · rw [if_neg c25] at H
                                    exact absurd H (by simp)
                                · rw [if_neg c24] at H
                                  have c24b0 : (t146 == 0) = false := beq_eq_false_iff_ne.mpr c24
                                  have c24b1 : (t146 != 0) = true := bne_iff_ne.mpr c24
                                  exact absurd H (by simp)
                              · rw [if_neg c22] at H
                                exact absurd H (by simp)
                            · rw [if_neg c21] at H
                              exact absurd H (by simp)
                          · rw [if_neg c20] at H
                            have c20b0 : decide (x9_4 < (l0.length : Int)) = false := decide_eq_false c20
                            clear c20
                            have H' := Aside0.mk H
                            clear H
                            go_wp2
                            go_loopg [8, 13] k4 (fun kq v8 v13 w' => ∃ (x8_5 : Int) (x13_5 : Int), v8 = .int .i64 x8_5 ∧ v13 = .int .i64 x13_5 ∧ Aside0 (vedettelaw1_NumRows.l3 kq l1 x5_3 x8_5 x13_5 = some true) ∧ Aside0 (kq ≤ k4) ∧ Aside0 (Below w.heap.size w w'))
                            case atStart => exact ⟨(x8_4), (0), (by first | rfl | (simp; done) | (simp [*]; done)), (by first | rfl | (simp; done) | (simp [*]; done)), H', ⟨Nat.le_refl _⟩, ⟨by repeat (first | (with_reducible first | exact HB.out | apply below_alloc | apply pw_below_drewN | apply below_drew1) | exact HB.out)⟩⟩
                            case round =>
                              clear H'
                              try clear c1
                              try clear p1
                              try clear q1
                              try clear hx1
                              try clear c2
                              try clear p2
                              try clear c4
                              try clear c5
                              try clear p6
                              try clear c7
                              try clear c7b0
                              try clear c7b1
                              try clear c8
                              try clear c9
                              try clear c9b0
                              try clear c10
                              try clear c10b0
                              try clear c11
                              try clear c12
                              try clear c12b0
                              try clear c12b1
                              try clear c12b2
                              try clear p13
                              try clear q13
                              try clear hx13
                              try clear c14
                              try clear c14b0
                              try clear p14
                              try clear q14
                              try clear hx14
                              try clear c15
                              try clear c15b0
                              try clear c16
                              try clear c16b0
                              try clear c16b1
                              try clear c18
                              try clear c18b0
                              try clear c18b1
                              try clear c18b2
                              try clear c20
                              try clear c20b0
                              try clear c21
                              try clear c21b0
                              try clear c21b1
                              try clear c22
                              try clear c22b0
                              try clear c22b1
                              try clear c24
                              try clear c24b0
                              try clear c24b1
                              try clear c25
                              try clear c25b0
                              try clear c26
                              try clear c26b0
                              try clear c26b1
                              try clear hx139_0
                              try clear hx141_0
                              try clear hx142_0
                              try clear hx147_0
                              try clear p1
                              try clear p13
                              try clear p139
                              try clear p14
                              try clear p141
                              try clear p142
                              try clear p147
                              try clear p2
                              try clear p6
                              try clear q1
                              try clear q13
                              try clear q139
                              try clear q14
                              try clear q141
                              try clear q142
                              try clear q147
                              obtain ⟨x8_5, x13_5, rfl, rfl, HA, HK5, HB⟩ := hrel
                              cases gk with
                              | zero => exact absurd HA.out (by simp [vedettelaw1_NumRows.l3])
                              | succ k5 =>
                                have H := HA.out
                                clear HA
                                simp only [vedettelaw1_NumRows.l3] at H
                                by_cases c28 : x13_5 < (l1.length : Int)
                                · rw [if_pos c28] at H
                                  have c28b0 : decide (x13_5 < (l1.length : Int)) = true := decide_eq_true c28
                                  clear c28
                                  by_cases c29 : 0 ≤ x8_5
                                  · rw [if_pos c29] at H
                                    have c29b0 := eq_true c29
                                    have c29b1 : decide (0 ≤ x8_5) = true := decide_eq_true c29
                                    clear c29
                                    by_cases c30 : x8_5 ≤ (x5_3.size : Int)
                                    · rw [if_pos c30] at H
                                      have c30b0 := eq_true c30
                                      have c30b1 : decide (x8_5 ≤ (x5_3.size : Int)) = true := decide_eq_true c30
                                      clear c30
                                      replace H := Option.bind_eq_some_iff.mp H
                                      obtain ⟨⟨t148, t149, t150⟩, A310, H⟩ := H
                                      replace H : (if t150 = 0 then (if 0 ≤ x13_5 then (if t148.toList = (rdOf ByteArray.empty l1 x13_5).toList then (vedettelaw1_NumRows.l3 k5 l1 x5_3 (wrap64 (x8_5 + t149)) (wrap64 (x13_5 + 1))) else (some false)) else (none)) else (some false)) = some true := H
                                      have A31 := Aside0.mk A310
                                      clear A310
                                      by_cases c32 : t150 = 0
                                      · rw [if_pos c32] at H
                                        have c32b0 : (t150 == 0) = true := beq_iff_eq.mpr c32
                                        have c32b1 : (t150 != 0) = false := bne_eq_false_iff_eq.mpr c32
                                        clear c32
                                        by_cases c33 : 0 ≤ x13_5
                                        · rw [if_pos c33] at H
                                          have c33b0 : decide (0 ≤ x13_5) = true := decide_eq_true c33
                                          clear c33
                                          by_cases c34 : t148.toList = (rdOf ByteArray.empty l1 x13_5).toList
                                          · rw [if_pos c34] at H
                                            have c34b0 : (t148.toList == (rdOf ByteArray.empty l1 x13_5).toList) = true := beq_iff_eq.mpr c34
                                            have c34b1 : (t148.toList != (rdOf ByteArray.empty l1 x13_5).toList) = false := bne_eq_false_iff_eq.mpr c34
                                            clear c34
                                            have H' := Aside0.mk H
                                            clear H
                                            go_wp2_with (first | ((with_reducible refine gate_callee (f := 13) rfl ?_); refine goesL_ (some 96) rfl rfl Try.func13 (by kernel_rfl) rfl #[.string (x5_3.extract (x8_5 : Int).toNat x5_3.size), .int .i64 200] rfl (by (try simp only [List.map_toArray, List.map_cons, List.map_nil]); first | done | rfl | (simp only [List.length_drop, List.length_take]; rfl)) ?_; (with_reducible refine (num_Texts.calls (x5_3.extract (x8_5 : Int).toNat x5_3.size) 200 t148 t149 t150 _ A31.out).mono ?_); rintro e w35 ⟨rfl, hb⟩; refine ⟨_, rfl, ?_⟩; have n0_ := Aside0.mk (below_step (by repeat (first | (with_reducible first | exact HB.out | apply below_alloc | apply pw_below_drewN | apply below_drew1) | exact HB.out)) hb); clear HB; have HB := n0_; clear n0_; (try clear hb); (try clear hb2); (try clear hk); (try clear hi); have p151 : 0 ≤ (x13_5 : Int) := of_decide_eq_true (by first | (with_reducible assumption) | assumption); have q151 : x13_5 < (l1.length : Int) := of_decide_eq_true (by first | (with_reducible assumption) | assumption); obtain ⟨ad151, e151, hx151_0⟩ := Kd.at_string HR1.out x13_5 p151 q151; cases e151; replace hx151_0 := (HB.out.cell (World.block_lt_of_cell? w _ hx151_0)).trans hx151_0; replace p151 := eq_true p151; replace q151 := eq_true q151))
                                            go_roundg k5
                                            case measure => have := HJ4.out; have := HK2.out; have := HK3.out; have := HK4.out; have := HK5.out; omega
                                            case rel => exact ⟨(wrap64 (x8_5 + t149)), (wrap64 (x13_5 + 1)), (by first | rfl | (simp; done) | (simp [*]; done)), (by first | rfl | (simp; done) | (simp [*]; done)), H', ⟨by have := HJ4.out; have := HK2.out; have := HK3.out; have := HK4.out; have := HK5.out; omega⟩, ⟨by repeat (first | (with_reducible first | exact HB.out | apply below_alloc | apply pw_below_drewN | apply below_drew1) | exact HB.out)⟩⟩
                                          · rw [if_neg c34] at H
                                            have c34b0 : (t148.toList == (rdOf ByteArray.empty l1 x13_5).toList) = false := beq_eq_false_iff_ne.mpr c34
                                            have c34b1 : (t148.toList != (rdOf ByteArray.empty l1 x13_5).toList) = true := bne_iff_ne.mpr c34
                                            exact absurd H (by simp)
                                        · rw [if_neg c33] at H
                                          exact absurd H (by simp)
                                      · rw [if_neg c32] at H
                                        have c32b0 : (t150 == 0) = false := beq_eq_false_iff_ne.mpr c32
                                        have c32b1 : (t150 != 0) = true := bne_iff_ne.mpr c32
                                        exact absurd H (by simp)
                                    · rw [if_neg c30] at H
                                      exact absurd H (by simp)
                                  · rw [if_neg c29] at H
                                    exact absurd H (by simp)
                                · rw [if_neg c28] at H
                                  have c28b0 : decide (x13_5 < (l1.length : Int)) = false := decide_eq_false c28
                                  clear c28
                                  have HE := Aside0.mk (Option.some.inj H)
                                  clear H
                                  go_wp2
                                  go_ret
                                  exact ⟨by first | rfl | exact congrArg (fun b_ => Ending.returned (Value.bool b_)) HE.out | (have he_ := HE.out; simp at he_; simp [he_]; done) | (simp [errW_none, errW_some] <;> rfl) | (simp [*, errW_none, errW_some] <;> rfl), by repeat (first | (with_reducible first | exact HB.out | apply below_alloc | apply pw_below_drewN | apply below_drew1) | exact HB.out)⟩
  · replace c4 := Bool.eq_false_iff.mpr c4
    subst c4
    have H1 : (some false) = some true := by rw [if_neg (show ¬ (false = true) by decide)] at H; try exact H
    clear H
    have H := H1
    clear H1
    exact absurd H (by simp)

end Go.Proofs.Ytgedcomfbkgkoaa.Print
