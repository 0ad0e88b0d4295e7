/- What functions of the program compute, and that the code does so: written by a program of the session. -/
import Derived.Test.YtgedcomfbkgkoaaPrint0
import Derived.Test.YtgedcomfbkgkoaaPrint1
namespace Go.Proofs.Ytgedcomfbkgkoaa.Print
open Go.RowKit Go.Proofs.YtgedcomfbkgkoaaW.PrintWords Go.Proofs.YtgedcomfbkgkoaaW.PrintLast Go.Proofs.YtgedcomfbkgkoaaW.PrintMore
attribute [local go_sem] max2_int min2_int max_two min_two max_three min_three max_four min_four   -- for this text's walks alone
set_option linter.unusedVariables false
set_option linter.unusedSimpArgs false

/-! ### vedettelaw1_NumOrder: function 4 -/
def vedettelaw1_NumOrder.f (k : Nat) (a0 : Int) (a1 : Int) : Option (Bool) := (vedettelaw1_known.f k).bind fun t135 => (if t135 = true then ((num_Put.f k a0).bind fun t136 => ((num_Put.f k a1).bind fun t137 => (if (t136.size : Int) > (t137.size : Int) then (if ((t137.toList == t136.toList) == (a0 == a1)) = true then (if 0 ≤ (t137.size : Int) then (if (t137.size : Int) ≤ (t136.size : Int) then (if ((t137.toList == (t136.extract 0 ((t137.size : Int) : Int).toNat).toList) == (a0 == a1)) = true then (if (t137.size : Int) ≥ 1 then (some (decide ((t136.size : Int) ≤ 10))) else (some false)) else (some false)) else (none)) else (none)) else (some false)) else (if ((t136.toList == t137.toList) == (a0 == a1)) = true then (if 0 ≤ (t136.size : Int) then (if (t136.size : Int) ≤ (t137.size : Int) then (if ((t136.toList == (t137.extract 0 ((t136.size : Int) : Int).toNat).toList) == (a0 == a1)) = true then (if (t136.size : Int) ≥ 1 then (some (decide ((t137.size : Int) ≤ 10))) else (some false)) else (some false)) else (none)) else (none)) else (some false))))) else (some false))
theorem vedettelaw1_NumOrder.mono : ∀ a0 a1 k, LeO (vedettelaw1_NumOrder.f k a0 a1) (vedettelaw1_NumOrder.f (k + 1) a0 a1) := by
  intro a0 a1 k
  unfold vedettelaw1_NumOrder.f
  repeat' first
      | (with_reducible exact num_Put.mono _ _)
      | (with_reducible exact vedettelaw1_known.mono _)
      | (with_reducible exact LeO.refl _)
      | (with_reducible exact LeO.none _)
      | (with_reducible refine LeO.ite ?_ ?_)
      | (with_reducible refine LeO.bind ?_ (fun _ => ?_))
      | exact num_Put.mono _ _
      | exact vedettelaw1_known.mono _
      | exact LeO.none _
      | refine LeO.ite ?_ ?_
      | refine LeO.bind ?_ (fun _ => ?_)
set_option maxHeartbeats 8000000 in
set_option maxRecDepth 100000 in
theorem vedettelaw1_NumOrder.calls (k : Nat) (a0 : Int) (a1 : Int) (w : World) (h : vedettelaw1_NumOrder.f k a0 a1 = some true) :
    Calls Try.prog 4 #[.int .u64 a0, .int .u64 a1] w fun e w' => e = .returned (.bool true) ∧ Below w.heap.size w w' := by
  have HB := Aside0.mk (Below.refl w.heap.size w)
  have H : ((vedettelaw1_known.f k).bind fun t135 => (if t135 = true then ((num_Put.f k a0).bind fun t136 => ((num_Put.f k a1).bind fun t137 => (if (t136.size : Int) > (t137.size : Int) then (if ((t137.toList == t136.toList) == (a0 == a1)) = true then (if 0 ≤ (t137.size : Int) then (if (t137.size : Int) ≤ (t136.size : Int) then (if ((t137.toList == (t136.extract 0 ((t137.size : Int) : Int).toNat).toList) == (a0 == a1)) = true then (if (t137.size : Int) ≥ 1 then (some (decide ((t136.size : Int) ≤ 10))) else (some false)) else (some false)) else (none)) else (none)) else (some false)) else (if ((t136.toList == t137.toList) == (a0 == a1)) = true then (if 0 ≤ (t136.size : Int) then (if (t136.size : Int) ≤ (t137.size : Int) then (if ((t136.toList == (t137.extract 0 ((t136.size : Int) : Int).toNat).toList) == (a0 == a1)) = true then (if (t136.size : Int) ≥ 1 then (some (decide ((t137.size : Int) ≤ 10))) else (some false)) else (some false)) else (none)) else (none)) else (some false))))) else (some false))) = some true := h
  clear h
  replace H := Option.bind_eq_some_iff.mp H
  obtain ⟨t135, A30, H⟩ := H
  replace H : (if t135 = true then ((num_Put.f k a0).bind fun t136 => ((num_Put.f k a1).bind fun t137 => (if (t136.size : Int) > (t137.size : Int) then (if ((t137.toList == t136.toList) == (a0 == a1)) = true then (if 0 ≤ (t137.size : Int) then (if (t137.size : Int) ≤ (t136.size : Int) then (if ((t137.toList == (t136.extract 0 ((t137.size : Int) : Int).toNat).toList) == (a0 == a1)) = true then (if (t137.size : Int) ≥ 1 then (some (decide ((t136.size : Int) ≤ 10))) else (some false)) else (some false)) else (none)) else (none)) else (some false)) else (if ((t136.toList == t137.toList) == (a0 == a1)) = true then (if 0 ≤ (t136.size : Int) then (if (t136.size : Int) ≤ (t137.size : Int) then (if ((t136.toList == (t137.extract 0 ((t136.size : Int) : Int).toNat).toList) == (a0 == a1)) = true then (if (t136.size : Int) ≥ 1 then (some (decide ((t137.size : Int) ≤ 10))) else (some false)) else (some false)) else (none)) else (none)) else (some false))))) else (some false)) = some true := H
  have A3 := Aside0.mk A30
  clear A30
  by_cases c4 : t135 = true
  · subst c4
    have H1 : ((num_Put.f k a0).bind fun t136 => ((num_Put.f k a1).bind fun t137 => (if (t136.size : Int) > (t137.size : Int) then (if ((t137.toList == t136.toList) == (a0 == a1)) = true then (if 0 ≤ (t137.size : Int) then (if (t137.size : Int) ≤ (t136.size : Int) then (if ((t137.toList == (t136.extract 0 ((t137.size : Int) : Int).toNat).toList) == (a0 == a1)) = true then (if (t137.size : Int) ≥ 1 then (some (decide ((t136.size : Int) ≤ 10))) else (some false)) else (some false)) else (none)) else (none)) else (some false)) else (if ((t136.toList == t137.toList) == (a0 == a1)) = true then (if 0 ≤ (t136.size : Int) then (if (t136.size : Int) ≤ (t137.size : Int) then (if ((t136.toList == (t137.extract 0 ((t136.size : Int) : Int).toNat).toList) == (a0 == a1)) = true then (if (t136.size : Int) ≥ 1 then (some (decide ((t137.size : Int) ≤ 10))) else (some false)) else (some false)) else (none)) else (none)) else (some false))))) = some true := by rw [if_pos rfl] at H; try exact H
    clear H
    have H := H1
    clear H1
    replace H := Option.bind_eq_some_iff.mp H
    obtain ⟨t136, A50, H⟩ := H
    replace H : ((num_Put.f k a1).bind fun t137 => (if (t136.size : Int) > (t137.size : Int) then (if ((t137.toList == t136.toList) == (a0 == a1)) = true then (if 0 ≤ (t137.size : Int) then (if (t137.size : Int) ≤ (t136.size : Int) then (if ((t137.toList == (t136.extract 0 ((t137.size : Int) : Int).toNat).toList) == (a0 == a1)) = true then (if (t137.size : Int) ≥ 1 then (some (decide ((t136.size : Int) ≤ 10))) else (some false)) else (some false)) else (none)) else (none)) else (some false)) else (if ((t136.toList == t137.toList) == (a0 == a1)) = true then (if 0 ≤ (t136.size : Int) then (if (t136.size : Int) ≤ (t137.size : Int) then (if ((t136.toList == (t137.extract 0 ((t136.size : Int) : Int).toNat).toList) == (a0 == a1)) = true then (if (t136.size : Int) ≥ 1 then (some (decide ((t137.size : Int) ≤ 10))) else (some false)) else (some false)) else (none)) else (none)) else (some false)))) = some true := H
    have A5 := Aside0.mk A50
    clear A50
    replace H := Option.bind_eq_some_iff.mp H
    obtain ⟨t137, A60, H⟩ := H
    replace H : (if (t136.size : Int) > (t137.size : Int) then (if ((t137.toList == t136.toList) == (a0 == a1)) = true then (if 0 ≤ (t137.size : Int) then (if (t137.size : Int) ≤ (t136.size : Int) then (if ((t137.toList == (t136.extract 0 ((t137.size : Int) : Int).toNat).toList) == (a0 == a1)) = true then (if (t137.size : Int) ≥ 1 then (some (decide ((t136.size : Int) ≤ 10))) else (some false)) else (some false)) else (none)) else (none)) else (some false)) else (if ((t136.toList == t137.toList) == (a0 == a1)) = true then (if 0 ≤ (t136.size : Int) then (if (t136.size : Int) ≤ (t137.size : Int) then (if ((t136.toList == (t137.extract 0 ((t136.size : Int) : Int).toNat).toList) == (a0 == a1)) = true then (if (t136.size : Int) ≥ 1 then (some (decide ((t137.size : Int) ≤ 10))) else (some false)) else (some false)) else (none)) else (none)) else (some false))) = some true := H
    have A6 := Aside0.mk A60
    clear A60
    by_cases c7 : (t136.size : Int) > (t137.size : Int)
    · rw [if_pos c7] at H
      have c7b0 : decide ((t137.size : Int) < (t136.size : Int)) = true := decide_eq_true c7
      have c7b1 : decide (t137.size < t136.size) = true := decide_eq_true (Int.ofNat_lt.mp c7)
      clear c7
      by_cases c8 : ((t137.toList == t136.toList) == (a0 == a1)) = true
      · rw [if_pos c8] at H
        have c8b0 : ((t137.toList == t136.toList) == (a0 == a1)) = true := c8
        (try (have c8b1 : decide ((t137.toList == t136.toList) = (a0 == a1)) = true := by simpa using c8))
        (try (have c8b2 : ((t137.toList == t136.toList) == (a0 == a1)) = true := by simpa using c8))
        clear c8
        by_cases c9 : 0 ≤ (t137.size : Int)
        · rw [if_pos c9] at H
          have c9b0 := eq_true c9
          have c9b1 : decide (0 ≤ (t137.size : Int)) = true := decide_eq_true c9
          clear c9
          by_cases c10 : (t137.size : Int) ≤ (t136.size : Int)
          · rw [if_pos c10] at H
            have c10b0 := eq_true c10
            have c10b1 : decide ((t137.size : Int) ≤ (t136.size : Int)) = true := decide_eq_true c10
            clear c10
            by_cases c11 : ((t137.toList == (t136.extract 0 ((t137.size : Int) : Int).toNat).toList) == (a0 == a1)) = true
            · rw [if_pos c11] at H
              have c11b0 : ((t137.toList == (t136.extract 0 ((t137.size : Int) : Int).toNat).toList) == (a0 == a1)) = true := c11
              (try (have c11b1 : decide ((t137.toList == (t136.extract 0 ((t137.size : Int) : Int).toNat).toList) = (a0 == a1)) = true := by simpa using c11))
              (try (have c11b2 : ((t137.toList == (t136.extract 0 ((t137.size : Int) : Int).toNat).toList) == (a0 == a1)) = true := by simpa using c11))
              (try simp only [Int.toNat_natCast] at c11b0)
              clear c11
              by_cases c12 : (t137.size : Int) ≥ 1
              · rw [if_pos c12] at H
                have c12b0 : decide (1 ≤ (t137.size : Int)) = true := decide_eq_true c12
                have c12b1 : decide (1 ≤ t137.size) = true := decide_eq_true (by omega)
                clear c12
                have HE := Aside0.mk (Option.some.inj H)
                clear H
                go_enter Try.func4, Try.ntmps4
                go_wp2_with (first | ((with_reducible refine gate_callee (f := 9) rfl ?_); refine goesL_ (some 7) rfl rfl Try.func9 (by kernel_rfl) rfl #[] rfl (by (try simp only [List.map_toArray, List.map_cons, List.map_nil]); first | done | rfl | (simp only [List.length_drop, List.length_take]; rfl)) ?_; (with_reducible refine (vedettelaw1_known.calls k  true _ A3.out).mono ?_); rintro e w13 ⟨rfl, hb⟩; refine ⟨_, rfl, ?_⟩; have n0_ := Aside0.mk (below_step (by repeat (first | (with_reducible first | exact HB.out | apply below_alloc | apply pw_below_drewN | apply below_drew1) | exact HB.out)) hb); clear HB; have HB := n0_; clear n0_; (try clear hb); (try clear hb2); (try clear hk); (try clear hi)) | ((with_reducible refine gate_callee (f := 10) rfl ?_); refine goesL_ (some 10) rfl rfl Try.func10 (by kernel_rfl) rfl #[.int .u64 a0] rfl (by (try simp only [List.map_toArray, List.map_cons, List.map_nil]); first | done | rfl | (simp only [List.length_drop, List.length_take]; rfl)) ?_; (with_reducible refine (num_Put.calls k a0 t136 _ A5.out).mono ?_); rintro e w14 ⟨rfl, hb⟩; refine ⟨_, rfl, ?_⟩; have n0_ := Aside0.mk (below_step (by repeat (first | (with_reducible first | exact HB.out | apply below_alloc | apply pw_below_drewN | apply below_drew1) | exact HB.out)) hb); clear HB; have HB := n0_; clear n0_; (try clear hb); (try clear hb2); (try clear hk); (try clear hi)) | ((with_reducible refine gate_callee (f := 10) rfl ?_); refine goesL_ (some 12) rfl rfl Try.func10 (by kernel_rfl) rfl #[.int .u64 a1] rfl (by (try simp only [List.map_toArray, List.map_cons, List.map_nil]); first | done | rfl | (simp only [List.length_drop, List.length_take]; rfl)) ?_; (with_reducible refine (num_Put.calls k a1 t137 _ A6.out).mono ?_); rintro e w15 ⟨rfl, hb⟩; refine ⟨_, rfl, ?_⟩; have n0_ := Aside0.mk (below_step (by repeat (first | (with_reducible first | exact HB.out | apply below_alloc | apply pw_below_drewN | apply below_drew1) | exact HB.out)) hb); clear HB; have HB := n0_; clear n0_; (try clear hb); (try clear hb2); (try clear hk); (try clear hi)))
                go_ret
                exact ⟨by first | rfl | exact congrArg (fun b_ => Ending.returned (Value.bool b_)) HE.out | (have he_ := HE.out; simp at he_; simp [he_]; done) | (simp [errW_none, errW_some] <;> rfl) | (simp [*, errW_none, errW_some] <;> rfl), by repeat (first | (with_reducible first | exact HB.out | apply below_alloc | apply pw_below_drewN | apply below_drew1) | exact HB.out)⟩
              · rw [if_neg c12] at H
                have c12b0 : decide (1 ≤ (t137.size : Int)) = false := decide_eq_false c12
                have c12b1 : decide (1 ≤ t137.size) = false := decide_eq_false (by omega)
                clear c12
                exact absurd H (by simp)
            · rw [if_neg c11] at H
              have c11b0 : ((t137.toList == (t136.extract 0 ((t137.size : Int) : Int).toNat).toList) == (a0 == a1)) = false := by simpa using c11
              (try (have c11b1 : decide ((t137.toList == (t136.extract 0 ((t137.size : Int) : Int).toNat).toList) = (a0 == a1)) = false := by simpa using c11))
              (try (have c11b2 : ((t137.toList == (t136.extract 0 ((t137.size : Int) : Int).toNat).toList) == (a0 == a1)) = false := by simpa using c11))
              (try (have c11b3 : ¬ ((t137.toList == (t136.extract 0 ((t137.size : Int) : Int).toNat).toList) = (a0 == a1)) := by simpa using c11))
              (try simp only [Int.toNat_natCast] at c11b0)
              clear c11
              exact absurd H (by simp)
          · rw [if_neg c10] at H
            exact absurd H (by simp)
        · rw [if_neg c9] at H
          exact absurd H (by simp)
      · rw [if_neg c8] at H
        have c8b0 : ((t137.toList == t136.toList) == (a0 == a1)) = false := by simpa using c8
        (try (have c8b1 : decide ((t137.toList == t136.toList) = (a0 == a1)) = false := by simpa using c8))
        (try (have c8b2 : ((t137.toList == t136.toList) == (a0 == a1)) = false := by simpa using c8))
        (try (have c8b3 : ¬ ((t137.toList == t136.toList) = (a0 == a1)) := by simpa using c8))
        clear c8
        exact absurd H (by simp)
    · rw [if_neg c7] at H
      have c7b0 : decide ((t137.size : Int) < (t136.size : Int)) = false := decide_eq_false c7
      have c7b1 : decide (t137.size < t136.size) = false := decide_eq_false (fun h => c7 (Int.ofNat_lt.mpr h))
      clear c7
      by_cases c16 : ((t136.toList == t137.toList) == (a0 == a1)) = true
      · rw [if_pos c16] at H
        have c16b0 : ((t136.toList == t137.toList) == (a0 == a1)) = true := c16
        (try (have c16b1 : decide ((t136.toList == t137.toList) = (a0 == a1)) = true := by simpa using c16))
        (try (have c16b2 : ((t136.toList == t137.toList) == (a0 == a1)) = true := by simpa using c16))
        clear c16
        by_cases c17 : 0 ≤ (t136.size : Int)
        · rw [if_pos c17] at H
          have c17b0 := eq_true c17
          have c17b1 : decide (0 ≤ (t136.size : Int)) = true := decide_eq_true c17
          clear c17
          by_cases c18 : (t136.size : Int) ≤ (t137.size : Int)
          · rw [if_pos c18] at H
            have c18b0 := eq_true c18
            have c18b1 : decide ((t136.size : Int) ≤ (t137.size : Int)) = true := decide_eq_true c18
            clear c18
            by_cases c19 : ((t136.toList == (t137.extract 0 ((t136.size : Int) : Int).toNat).toList) == (a0 == a1)) = true
            · rw [if_pos c19] at H
              have c19b0 : ((t136.toList == (t137.extract 0 ((t136.size : Int) : Int).toNat).toList) == (a0 == a1)) = true := c19
              (try (have c19b1 : decide ((t136.toList == (t137.extract 0 ((t136.size : Int) : Int).toNat).toList) = (a0 == a1)) = true := by simpa using c19))
              (try (have c19b2 : ((t136.toList == (t137.extract 0 ((t136.size : Int) : Int).toNat).toList) == (a0 == a1)) = true := by simpa using c19))
              (try simp only [Int.toNat_natCast] at c19b0)
              clear c19
              by_cases c20 : (t136.size : Int) ≥ 1
              · rw [if_pos c20] at H
                have c20b0 : decide (1 ≤ (t136.size : Int)) = true := decide_eq_true c20
                have c20b1 : decide (1 ≤ t136.size) = true := decide_eq_true (by omega)
                clear c20
                have HE := Aside0.mk (Option.some.inj H)
                clear H
                go_enter Try.func4, Try.ntmps4
                go_wp2_with (first | ((with_reducible refine gate_callee (f := 9) rfl ?_); refine goesL_ (some 7) rfl rfl Try.func9 (by kernel_rfl) rfl #[] rfl (by (try simp only [List.map_toArray, List.map_cons, List.map_nil]); first | done | rfl | (simp only [List.length_drop, List.length_take]; rfl)) ?_; (with_reducible refine (vedettelaw1_known.calls k  true _ A3.out).mono ?_); rintro e w21 ⟨rfl, hb⟩; refine ⟨_, rfl, ?_⟩; have n0_ := Aside0.mk (below_step (by repeat (first | (with_reducible first | exact HB.out | apply below_alloc | apply pw_below_drewN | apply below_drew1) | exact HB.out)) hb); clear HB; have HB := n0_; clear n0_; (try clear hb); (try clear hb2); (try clear hk); (try clear hi)) | ((with_reducible refine gate_callee (f := 10) rfl ?_); refine goesL_ (some 10) rfl rfl Try.func10 (by kernel_rfl) rfl #[.int .u64 a0] rfl (by (try simp only [List.map_toArray, List.map_cons, List.map_nil]); first | done | rfl | (simp only [List.length_drop, List.length_take]; rfl)) ?_; (with_reducible refine (num_Put.calls k a0 t136 _ A5.out).mono ?_); rintro e w22 ⟨rfl, hb⟩; refine ⟨_, rfl, ?_⟩; have n0_ := Aside0.mk (below_step (by repeat (first | (with_reducible first | exact HB.out | apply below_alloc | apply pw_below_drewN | apply below_drew1) | exact HB.out)) hb); clear HB; have HB := n0_; clear n0_; (try clear hb); (try clear hb2); (try clear hk); (try clear hi)) | ((with_reducible refine gate_callee (f := 10) rfl ?_); refine goesL_ (some 12) rfl rfl Try.func10 (by kernel_rfl) rfl #[.int .u64 a1] rfl (by (try simp only [List.map_toArray, List.map_cons, List.map_nil]); first | done | rfl | (simp only [List.length_drop, List.length_take]; rfl)) ?_; (with_reducible refine (num_Put.calls k a1 t137 _ A6.out).mono ?_); rintro e w23 ⟨rfl, hb⟩; refine ⟨_, rfl, ?_⟩; have n0_ := Aside0.mk (below_step (by repeat (first | (with_reducible first | exact HB.out | apply below_alloc | apply pw_below_drewN | apply below_drew1) | exact HB.out)) hb); clear HB; have HB := n0_; clear n0_; (try clear hb); (try clear hb2); (try clear hk); (try clear hi)))
                go_ret
                exact ⟨by first | rfl | exact congrArg (fun b_ => Ending.returned (Value.bool b_)) HE.out | (have he_ := HE.out; simp at he_; simp [he_]; done) | (simp [errW_none, errW_some] <;> rfl) | (simp [*, errW_none, errW_some] <;> rfl), by repeat (first | (with_reducible first | exact HB.out | apply below_alloc | apply pw_below_drewN | apply below_drew1) | exact HB.out)⟩
              · rw [if_neg c20] at H
                have c20b0 : decide (1 ≤ (t136.size : Int)) = false := decide_eq_false c20
                have c20b1 : decide (1 ≤ t136.size) = false := decide_eq_false (by omega)
                clear c20
                exact absurd H (by simp)
            · rw [if_neg c19] at H
              have c19b0 : ((t136.toList == (t137.extract 0 ((t136.size : Int) : Int).toNat).toList) == (a0 == a1)) = false := by simpa using c19
              (try (have c19b1 : decide ((t136.toList == (t137.extract 0 ((t136.size : Int) : Int).toNat).toList) = (a0 == a1)) = false := by simpa using c19))
              (try (have c19b2 : ((t136.toList == (t137.extract 0 ((t136.size : Int) : Int).toNat).toList) == (a0 == a1)) = false := by simpa using c19))
              (try (have c19b3 : ¬ ((t136.toList == (t137.extract 0 ((t136.size : Int) : Int).toNat).toList) = (a0 == a1)) := by simpa using c19))
              (try simp only [Int.toNat_natCast] at c19b0)
              clear c19
              exact absurd H (by simp)
          · rw [if_neg c18] at H
            exact absurd H (by simp)
        · rw [if_neg c17] at H
          exact absurd H (by simp)
      · rw [if_neg c16] at H
        have c16b0 : ((t136.toList == t137.toList) == (a0 == a1)) = false := by simpa using c16
        (try (have c16b1 : decide ((t136.toList == t137.toList) = (a0 == a1)) = false := by simpa using c16))
        (try (have c16b2 : ((t136.toList == t137.toList) == (a0 == a1)) = false := by simpa using c16))
        (try (have c16b3 : ¬ ((t136.toList == t137.toList) = (a0 == a1)) := by simpa using c16))
        clear c16
        exact absurd H (by simp)
  · replace c4 := Bool.eq_false_iff.mpr c4
    subst c4
    have H1 : (some false) = some true := by rw [if_neg (show ¬ (false = true) by decide)] at H; try exact H
    clear H
    have H := H1
    clear H1
    exact absurd H (by simp)

/-- THE ONE PURE STATEMENT of vedettelaw1_NumOrder: yours. -/
def vedettelaw1_NumOrder.Pure : Prop := ∀ (a0 : Int) (a1 : Int), (Lit.int .u64 a0).wf = true → (Lit.int .u64 a1).wf = true → ∃ k, vedettelaw1_NumOrder.f k a0 a1 = some true
theorem vedettelaw1_NumOrder.walk (P : vedettelaw1_NumOrder.Pure) (a0 : Int) (a1 : Int) (w : World) (w0 : (Lit.int .u64 a0).wf = true) (w1 : (Lit.int .u64 a1).wf = true) :
    Calls Try.prog 4 #[.int .u64 a0, .int .u64 a1] w fun e w' => e = .returned (.bool true) ∧ Below w.heap.size w w' := by
  obtain ⟨k, h⟩ := P a0 a1 w0 w1
  refine (vedettelaw1_NumOrder.calls k a0 a1 w h).mono ?_
  rintro e w' ⟨rfl, hd⟩
  exact ⟨rfl, hd⟩

end Go.Proofs.Ytgedcomfbkgkoaa.Print
