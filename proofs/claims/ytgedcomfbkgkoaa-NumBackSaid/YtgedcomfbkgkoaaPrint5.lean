/- What functions of the program compute, and that the code does so: written by a program of the session. -/
import Derived.Test.YtgedcomfbkgkoaaPrint0
import Derived.Test.YtgedcomfbkgkoaaPrint1
import Derived.Test.YtgedcomfbkgkoaaPrint4
namespace Go.Proofs.Ytgedcomfbkgkoaa.Print
open Go.RowKit Go.Proofs.YtgedcomfbkgkoaaW.PrintWords Go.Proofs.YtgedcomfbkgkoaaW.PrintLast Go.Proofs.YtgedcomfbkgkoaaW.PrintMore
attribute [local go_sem] max2_int min2_int max_two min_two max_three min_three max_four min_four   -- for this text's walks alone
set_option linter.unusedVariables false
set_option linter.unusedSimpArgs false

/-! ### vedettelaw1_NumTells: function 7 -/
def vedettelaw1_NumTells.f (k : Nat) (a0 : Int) (a1 : Int) (a2 : ByteArray) (a3 : Int) : Option (Bool) := (vedettelaw1_known.f k).bind fun t185 => (if t185 = true then (if (a2.size : Int) > 400 then (some true) else ((num_Get.f a2).bind fun bt186 => ((vedetteref1_Get.f k a2).bind fun bt189 => ((num_Ints.f a2).bind fun bt192 => ((vedetteref1_Ints.f k a2).bind fun bt195 => ((num_Texts.f a2 a3).bind fun bt198 => ((vedetteref1_Texts.f k a2 a3).bind fun bt201 => ((num_Put.f k a0).bind fun t204 => ((vedetteref1_Put.f k a0).bind fun t205 => (if t204.toList = t205.toList then (if bt186.1 = bt189.1 then (if bt186.2.1 = bt189.2.1 then (if bt186.2.2 = bt189.2.2 then ((num_Zig.f a1).bind fun t206 => ((vedetteref1_Zig.f a1).bind fun t207 => (if t206 = t207 then ((num_Zag.f a0).bind fun t208 => ((vedetteref1_Zag.f a0).bind fun t209 => (if t208 = t209 then ((num_Int.f k a1).bind fun t210 => ((vedetteref1_Int.f k a1).bind fun t211 => (if t210.toList = t211.toList then (if bt192.1 = bt195.1 then (if bt192.2.1 = bt195.2.1 then (if bt192.2.2 = bt195.2.2 then ((num_Text.f k a2).bind fun t212 => ((vedetteref1_Text.f k a2).bind fun t213 => (if t212.toList = t213.toList then (if bt198.1.toList = bt201.1.toList then (if bt198.2.1 = bt201.2.1 then (some (bt198.2.2 == bt201.2.2)) else (some false)) else (some false)) else (some false)))) else (some false)) else (some false)) else (some false)) else (some false)))) else (some false)))) else (some false)))) else (some false)) else (some false)) else (some false)) else (some false))))))))))) else (some false))
theorem vedettelaw1_NumTells.mono : ∀ a0 a1 a2 a3 k, LeO (vedettelaw1_NumTells.f k a0 a1 a2 a3) (vedettelaw1_NumTells.f (k + 1) a0 a1 a2 a3) := by
  intro a0 a1 a2 a3 k
  unfold vedettelaw1_NumTells.f
  repeat' first
      | (with_reducible exact num_Int.mono _ _)
      | (with_reducible exact num_Put.mono _ _)
      | (with_reducible exact num_Text.mono _ _)
      | (with_reducible exact vedettelaw1_known.mono _)
      | (with_reducible exact vedetteref1_Get.mono _ _)
      | (with_reducible exact vedetteref1_Int.mono _ _)
      | (with_reducible exact vedetteref1_Ints.mono _ _)
      | (with_reducible exact vedetteref1_Put.mono _ _)
      | (with_reducible exact vedetteref1_Text.mono _ _)
      | (with_reducible exact vedetteref1_Texts.mono _ _ _)
      | (with_reducible exact LeO.refl _)
      | (with_reducible exact LeO.none _)
      | (with_reducible refine LeO.ite ?_ ?_)
      | (with_reducible refine LeO.bind ?_ (fun _ => ?_))
      | exact num_Int.mono _ _
      | exact num_Put.mono _ _
      | exact num_Text.mono _ _
      | exact vedettelaw1_known.mono _
      | exact vedetteref1_Get.mono _ _
      | exact vedetteref1_Int.mono _ _
      | exact vedetteref1_Ints.mono _ _
      | exact vedetteref1_Put.mono _ _
      | exact vedetteref1_Text.mono _ _
      | exact vedetteref1_Texts.mono _ _ _
      | exact LeO.none _
      | refine LeO.ite ?_ ?_
      | refine LeO.bind ?_ (fun _ => ?_)
set_option maxHeartbeats 8000000 in
set_option maxRecDepth 100000 in
theorem vedettelaw1_NumTells.calls (k : Nat) (a0 : Int) (a1 : Int) (a2 : ByteArray) (a3 : Int) (w : World) (h : vedettelaw1_NumTells.f k a0 a1 a2 a3 = some true) :
    Calls Try.prog 7 #[.int .u64 a0, .int .i64 a1, .string a2, .int .i64 a3] w fun e w' => e = .returned (.bool true) ∧ Below w.heap.size w w' := by
  have HB := Aside0.mk (Below.refl w.heap.size w)
  have H : ((vedettelaw1_known.f k).bind fun t185 => (if t185 = true then (if (a2.size : Int) > 400 then (some true) else ((num_Get.f a2).bind fun bt186 => ((vedetteref1_Get.f k a2).bind fun bt189 => ((num_Ints.f a2).bind fun bt192 => ((vedetteref1_Ints.f k a2).bind fun bt195 => ((num_Texts.f a2 a3).bind fun bt198 => ((vedetteref1_Texts.f k a2 a3).bind fun bt201 => ((num_Put.f k a0).bind fun t204 => ((vedetteref1_Put.f k a0).bind fun t205 => (if t204.toList = t205.toList then (if bt186.1 = bt189.1 then (if bt186.2.1 = bt189.2.1 then (if bt186.2.2 = bt189.2.2 then ((num_Zig.f a1).bind fun t206 => ((vedetteref1_Zig.f a1).bind fun t207 => (if t206 = t207 then ((num_Zag.f a0).bind fun t208 => ((vedetteref1_Zag.f a0).bind fun t209 => (if t208 = t209 then ((num_Int.f k a1).bind fun t210 => ((vedetteref1_Int.f k a1).bind fun t211 => (if t210.toList = t211.toList then (if bt192.1 = bt195.1 then (if bt192.2.1 = bt195.2.1 then (if bt192.2.2 = bt195.2.2 then ((num_Text.f k a2).bind fun t212 => ((vedetteref1_Text.f k a2).bind fun t213 => (if t212.toList = t213.toList then (if bt198.1.toList = bt201.1.toList then (if bt198.2.1 = bt201.2.1 then (some (bt198.2.2 == bt201.2.2)) else (some false)) else (some false)) else (some false)))) else (some false)) else (some false)) else (some false)) else (some false)))) else (some false)))) else (some false)))) else (some false)) else (some false)) else (some false)) else (some false))))))))))) else (some false))) = some true := h
  clear h
  replace H := Option.bind_eq_some_iff.mp H
  obtain ⟨t185, A50, H⟩ := H
  replace H : (if t185 = true then (if (a2.size : Int) > 400 then (some true) else ((num_Get.f a2).bind fun bt186 => ((vedetteref1_Get.f k a2).bind fun bt189 => ((num_Ints.f a2).bind fun bt192 => ((vedetteref1_Ints.f k a2).bind fun bt195 => ((num_Texts.f a2 a3).bind fun bt198 => ((vedetteref1_Texts.f k a2 a3).bind fun bt201 => ((num_Put.f k a0).bind fun t204 => ((vedetteref1_Put.f k a0).bind fun t205 => (if t204.toList = t205.toList then (if bt186.1 = bt189.1 then (if bt186.2.1 = bt189.2.1 then (if bt186.2.2 = bt189.2.2 then ((num_Zig.f a1).bind fun t206 => ((vedetteref1_Zig.f a1).bind fun t207 => (if t206 = t207 then ((num_Zag.f a0).bind fun t208 => ((vedetteref1_Zag.f a0).bind fun t209 => (if t208 = t209 then ((num_Int.f k a1).bind fun t210 => ((vedetteref1_Int.f k a1).bind fun t211 => (if t210.toList = t211.toList then (if bt192.1 = bt195.1 then (if bt192.2.1 = bt195.2.1 then (if bt192.2.2 = bt195.2.2 then ((num_Text.f k a2).bind fun t212 => ((vedetteref1_Text.f k a2).bind fun t213 => (if t212.toList = t213.toList then (if bt198.1.toList = bt201.1.toList then (if bt198.2.1 = bt201.2.1 then (some (bt198.2.2 == bt201.2.2)) else (some false)) else (some false)) else (some false)))) else (some false)) else (some false)) else (some false)) else (some false)))) else (some false)))) else (some false)))) else (some false)) else (some false)) else (some false)) else (some false))))))))))) else (some false)) = some true := H
  have A5 := Aside0.mk A50
  clear A50
  by_cases c6 : t185 = true
  · subst c6
    have H1 : (if (a2.size : Int) > 400 then (some true) else ((num_Get.f a2).bind fun bt186 => ((vedetteref1_Get.f k a2).bind fun bt189 => ((num_Ints.f a2).bind fun bt192 => ((vedetteref1_Ints.f k a2).bind fun bt195 => ((num_Texts.f a2 a3).bind fun bt198 => ((vedetteref1_Texts.f k a2 a3).bind fun bt201 => ((num_Put.f k a0).bind fun t204 => ((vedetteref1_Put.f k a0).bind fun t205 => (if t204.toList = t205.toList then (if bt186.1 = bt189.1 then (if bt186.2.1 = bt189.2.1 then (if bt186.2.2 = bt189.2.2 then ((num_Zig.f a1).bind fun t206 => ((vedetteref1_Zig.f a1).bind fun t207 => (if t206 = t207 then ((num_Zag.f a0).bind fun t208 => ((vedetteref1_Zag.f a0).bind fun t209 => (if t208 = t209 then ((num_Int.f k a1).bind fun t210 => ((vedetteref1_Int.f k a1).bind fun t211 => (if t210.toList = t211.toList then (if bt192.1 = bt195.1 then (if bt192.2.1 = bt195.2.1 then (if bt192.2.2 = bt195.2.2 then ((num_Text.f k a2).bind fun t212 => ((vedetteref1_Text.f k a2).bind fun t213 => (if t212.toList = t213.toList then (if bt198.1.toList = bt201.1.toList then (if bt198.2.1 = bt201.2.1 then (some (bt198.2.2 == bt201.2.2)) else (some false)) else (some false)) else (some false)))) else (some false)) else (some false)) else (some false)) else (some false)))) else (some false)))) else (some false)))) else (some false)) else (some false)) else (some false)) else (some false))))))))))) = some true := by rw [if_pos rfl] at H; try exact H
    clear H
    have H := H1
    clear H1
    by_cases c7 : (a2.size : Int) > 400
    · rw [if_pos c7] at H
      have c7b0 : decide (400 < (a2.size : Int)) = true := decide_eq_true c7
      have c7b1 : decide (400 < a2.size) = true := decide_eq_true (by omega)
      clear c7
      clear H
      go_enter Try.func7, Try.ntmps7
      go_wp2_with (first | ((with_reducible refine gate_callee (f := 9) rfl ?_); refine goesL_ (some 27) rfl rfl Try.func9 (by kernel_rfl) rfl #[] rfl (by (try simp only [List.map_toArray, List.map_cons, List.map_nil]); first | done | rfl | (simp only [List.length_drop, List.length_take]; rfl)) ?_; (with_reducible refine (vedettelaw1_known.calls k  true _ A5.out).mono ?_); rintro e w8 ⟨rfl, hb⟩; refine ⟨_, rfl, ?_⟩; have n0_ := Aside0.mk (below_step (by repeat (first | (with_reducible first | exact HB.out | apply below_alloc | apply pw_below_drewN | apply below_drew1) | exact HB.out)) hb); clear HB; have HB := n0_; clear n0_; (try clear hb); (try clear hb2); (try clear hk); (try clear hi)))
      go_ret
      exact ⟨by first | rfl | exact congrArg (fun b_ => Ending.returned (Value.bool b_)) HE.out | (have he_ := HE.out; simp at he_; simp [he_]; done) | (simp [errW_none, errW_some] <;> rfl) | (simp [*, errW_none, errW_some] <;> rfl), by repeat (first | (with_reducible first | exact HB.out | apply below_alloc | apply pw_below_drewN | apply below_drew1) | exact HB.out)⟩
    · rw [if_neg c7] at H
      have c7b0 : decide (400 < (a2.size : Int)) = false := decide_eq_false c7
      have c7b1 : decide (400 < a2.size) = false := decide_eq_false (by omega)
      clear c7
      replace H := Option.bind_eq_some_iff.mp H
      obtain ⟨⟨t186, t187, t188⟩, A90, H⟩ := H
      replace H : ((vedetteref1_Get.f k a2).bind fun bt189 => ((num_Ints.f a2).bind fun bt192 => ((vedetteref1_Ints.f k a2).bind fun bt195 => ((num_Texts.f a2 a3).bind fun bt198 => ((vedetteref1_Texts.f k a2 a3).bind fun bt201 => ((num_Put.f k a0).bind fun t204 => ((vedetteref1_Put.f k a0).bind fun t205 => (if t204.toList = t205.toList then (if t186 = bt189.1 then (if t187 = bt189.2.1 then (if t188 = bt189.2.2 then ((num_Zig.f a1).bind fun t206 => ((vedetteref1_Zig.f a1).bind fun t207 => (if t206 = t207 then ((num_Zag.f a0).bind fun t208 => ((vedetteref1_Zag.f a0).bind fun t209 => (if t208 = t209 then ((num_Int.f k a1).bind fun t210 => ((vedetteref1_Int.f k a1).bind fun t211 => (if t210.toList = t211.toList then (if bt192.1 = bt195.1 then (if bt192.2.1 = bt195.2.1 then (if bt192.2.2 = bt195.2.2 then ((num_Text.f k a2).bind fun t212 => ((vedetteref1_Text.f k a2).bind fun t213 => (if t212.toList = t213.toList then (if bt198.1.toList = bt201.1.toList then (if bt198.2.1 = bt201.2.1 then (some (bt198.2.2 == bt201.2.2)) else (some false)) else (some false)) else (some false)))) else (some false)) else (some false)) else (some false)) else (some false)))) else (some false)))) else (some false)))) else (some false)) else (some false)) else (some false)) else (some false))))))))) = some true := H
      have A9 := Aside0.mk A90
      clear A90
      replace H := Option.bind_eq_some_iff.mp H
      obtain ⟨⟨t189, t190, t191⟩, A100, H⟩ := H
      replace H : ((num_Ints.f a2).bind fun bt192 => ((vedetteref1_Ints.f k a2).bind fun bt195 => ((num_Texts.f a2 a3).bind fun bt198 => ((vedetteref1_Texts.f k a2 a3).bind fun bt201 => ((num_Put.f k a0).bind fun t204 => ((vedetteref1_Put.f k a0).bind fun t205 => (if t204.toList = t205.toList then (if t186 = t189 then (if t187 = t190 then (if t188 = t191 then ((num_Zig.f a1).bind fun t206 => ((vedetteref1_Zig.f a1).bind fun t207 => (if t206 = t207 then ((num_Zag.f a0).bind fun t208 => ((vedetteref1_Zag.f a0).bind fun t209 => (if t208 = t209 then ((num_Int.f k a1).bind fun t210 => ((vedetteref1_Int.f k a1).bind fun t211 => (if t210.toList = t211.toList then (if bt192.1 = bt195.1 then (if bt192.2.1 = bt195.2.1 then (if bt192.2.2 = bt195.2.2 then ((num_Text.f k a2).bind fun t212 => ((vedetteref1_Text.f k a2).bind fun t213 => (if t212.toList = t213.toList then (if bt198.1.toList = bt201.1.toList then (if bt198.2.1 = bt201.2.1 then (some (bt198.2.2 == bt201.2.2)) else (some false)) else (some false)) else (some false)))) else (some false)) else (some false)) else (some false)) else (some false)))) else (some false)))) else (some false)))) else (some false)) else (some false)) else (some false)) else (some false)))))))) = some true := H
      have A10 := Aside0.mk A100
      clear A100
      replace H := Option.bind_eq_some_iff.mp H
      obtain ⟨⟨t192, t193, t194⟩, A110, H⟩ := H
      replace H : ((vedetteref1_Ints.f k a2).bind fun bt195 => ((num_Texts.f a2 a3).bind fun bt198 => ((vedetteref1_Texts.f k a2 a3).bind fun bt201 => ((num_Put.f k a0).bind fun t204 => ((vedetteref1_Put.f k a0).bind fun t205 => (if t204.toList = t205.toList then (if t186 = t189 then (if t187 = t190 then (if t188 = t191 then ((num_Zig.f a1).bind fun t206 => ((vedetteref1_Zig.f a1).bind fun t207 => (if t206 = t207 then ((num_Zag.f a0).bind fun t208 => ((vedetteref1_Zag.f a0).bind fun t209 => (if t208 = t209 then ((num_Int.f k a1).bind fun t210 => ((vedetteref1_Int.f k a1).bind fun t211 => (if t210.toList = t211.toList then (if t192 = bt195.1 then (if t193 = bt195.2.1 then (if t194 = bt195.2.2 then ((num_Text.f k a2).bind fun t212 => ((vedetteref1_Text.f k a2).bind fun t213 => (if t212.toList = t213.toList then (if bt198.1.toList = bt201.1.toList then (if bt198.2.1 = bt201.2.1 then (some (bt198.2.2 == bt201.2.2)) else (some false)) else (some false)) else (some false)))) else (some false)) else (some false)) else (some false)) else (some false)))) else (some false)))) else (some false)))) else (some false)) else (some false)) else (some false)) else (some false))))))) = some true := H
      have A11 := Aside0.mk A110
      clear A110
      replace H := Option.bind_eq_some_iff.mp H
      obtain ⟨⟨t195, t196, t197⟩, A120, H⟩ := H
      replace H : ((num_Texts.f a2 a3).bind fun bt198 => ((vedetteref1_Texts.f k a2 a3).bind fun bt201 => ((num_Put.f k a0).bind fun t204 => ((vedetteref1_Put.f k a0).bind fun t205 => (if t204.toList = t205.toList then (if t186 = t189 then (if t187 = t190 then (if t188 = t191 then ((num_Zig.f a1).bind fun t206 => ((vedetteref1_Zig.f a1).bind fun t207 => (if t206 = t207 then ((num_Zag.f a0).bind fun t208 => ((vedetteref1_Zag.f a0).bind fun t209 => (if t208 = t209 then ((num_Int.f k a1).bind fun t210 => ((vedetteref1_Int.f k a1).bind fun t211 => (if t210.toList = t211.toList then (if t192 = t195 then (if t193 = t196 then (if t194 = t197 then ((num_Text.f k a2).bind fun t212 => ((vedetteref1_Text.f k a2).bind fun t213 => (if t212.toList = t213.toList then (if bt198.1.toList = bt201.1.toList then (if bt198.2.1 = bt201.2.1 then (some (bt198.2.2 == bt201.2.2)) else (some false)) else (some false)) else (some false)))) else (some false)) else (some false)) else (some false)) else (some false)))) else (some false)))) else (some false)))) else (some false)) else (some false)) else (some false)) else (some false)))))) = some true := H
      have A12 := Aside0.mk A120
      clear A120
      replace H := Option.bind_eq_some_iff.mp H
      obtain ⟨⟨t198, t199, t200⟩, A130, H⟩ := H
      replace H : ((vedetteref1_Texts.f k a2 a3).bind fun bt201 => ((num_Put.f k a0).bind fun t204 => ((vedetteref1_Put.f k a0).bind fun t205 => (if t204.toList = t205.toList then (if t186 = t189 then (if t187 = t190 then (if t188 = t191 then ((num_Zig.f a1).bind fun t206 => ((vedetteref1_Zig.f a1).bind fun t207 => (if t206 = t207 then ((num_Zag.f a0).bind fun t208 => ((vedetteref1_Zag.f a0).bind fun t209 => (if t208 = t209 then ((num_Int.f k a1).bind fun t210 => ((vedetteref1_Int.f k a1).bind fun t211 => (if t210.toList = t211.toList then (if t192 = t195 then (if t193 = t196 then (if t194 = t197 then ((num_Text.f k a2).bind fun t212 => ((vedetteref1_Text.f k a2).bind fun t213 => (if t212.toList = t213.toList then (if t198.toList = bt201.1.toList then (if t199 = bt201.2.1 then (some (t200 == bt201.2.2)) else (some false)) else (some false)) else (some false)))) else (some false)) else (some false)) else (some false)) else (some false)))) else (some false)))) else (some false)))) else (some false)) else (some false)) else (some false)) else (some false))))) = some true := H
      have A13 := Aside0.mk A130
      clear A130
      replace H := Option.bind_eq_some_iff.mp H
      obtain ⟨⟨t201, t202, t203⟩, A140, H⟩ := H
      replace H : ((num_Put.f k a0).bind fun t204 => ((vedetteref1_Put.f k a0).bind fun t205 => (if t204.toList = t205.toList then (if t186 = t189 then (if t187 = t190 then (if t188 = t191 then ((num_Zig.f a1).bind fun t206 => ((vedetteref1_Zig.f a1).bind fun t207 => (if t206 = t207 then ((num_Zag.f a0).bind fun t208 => ((vedetteref1_Zag.f a0).bind fun t209 => (if t208 = t209 then ((num_Int.f k a1).bind fun t210 => ((vedetteref1_Int.f k a1).bind fun t211 => (if t210.toList = t211.toList then (if t192 = t195 then (if t193 = t196 then (if t194 = t197 then ((num_Text.f k a2).bind fun t212 => ((vedetteref1_Text.f k a2).bind fun t213 => (if t212.toList = t213.toList then (if t198.toList = t201.toList then (if t199 = t202 then (some (t200 == t203)) else (some false)) else (some false)) else (some false)))) else (some false)) else (some false)) else (some false)) else (some false)))) else (some false)))) else (some false)))) else (some false)) else (some false)) else (some false)) else (some false)))) = some true := H
      have A14 := Aside0.mk A140
      clear A140
      replace H := Option.bind_eq_some_iff.mp H
      obtain ⟨t204, A150, H⟩ := H
      replace H : ((vedetteref1_Put.f k a0).bind fun t205 => (if t204.toList = t205.toList then (if t186 = t189 then (if t187 = t190 then (if t188 = t191 then ((num_Zig.f a1).bind fun t206 => ((vedetteref1_Zig.f a1).bind fun t207 => (if t206 = t207 then ((num_Zag.f a0).bind fun t208 => ((vedetteref1_Zag.f a0).bind fun t209 => (if t208 = t209 then ((num_Int.f k a1).bind fun t210 => ((vedetteref1_Int.f k a1).bind fun t211 => (if t210.toList = t211.toList then (if t192 = t195 then (if t193 = t196 then (if t194 = t197 then ((num_Text.f k a2).bind fun t212 => ((vedetteref1_Text.f k a2).bind fun t213 => (if t212.toList = t213.toList then (if t198.toList = t201.toList then (if t199 = t202 then (some (t200 == t203)) else (some false)) else (some false)) else (some false)))) else (some false)) else (some false)) else (some false)) else (some false)))) else (some false)))) else (some false)))) else (some false)) else (some false)) else (some false)) else (some false))) = some true := H
      have A15 := Aside0.mk A150
      clear A150
      replace H := Option.bind_eq_some_iff.mp H
      obtain ⟨t205, A160, H⟩ := H
      replace H : (if t204.toList = t205.toList then (if t186 = t189 then (if t187 = t190 then (if t188 = t191 then ((num_Zig.f a1).bind fun t206 => ((vedetteref1_Zig.f a1).bind fun t207 => (if t206 = t207 then ((num_Zag.f a0).bind fun t208 => ((vedetteref1_Zag.f a0).bind fun t209 => (if t208 = t209 then ((num_Int.f k a1).bind fun t210 => ((vedetteref1_Int.f k a1).bind fun t211 => (if t210.toList = t211.toList then (if t192 = t195 then (if t193 = t196 then (if t194 = t197 then ((num_Text.f k a2).bind fun t212 => ((vedetteref1_Text.f k a2).bind fun t213 => (if t212.toList = t213.toList then (if t198.toList = t201.toList then (if t199 = t202 then (some (t200 == t203)) else (some false)) else (some false)) else (some false)))) else (some false)) else (some false)) else (some false)) else (some false)))) else (some false)))) else (some false)))) else (some false)) else (some false)) else (some false)) else (some false)) = some true := H
      have A16 := Aside0.mk A160
      clear A160
      by_cases c17 : t204.toList = t205.toList
      · rw [if_pos c17] at H
        have c17b0 : (t204.toList == t205.toList) = true := beq_iff_eq.mpr c17
        have c17b1 : (t204.toList != t205.toList) = false := bne_eq_false_iff_eq.mpr c17
        clear c17
        by_cases c18 : t186 = t189
        · rw [if_pos c18] at H
          have c18b0 : (t186 == t189) = true := beq_iff_eq.mpr c18
          have c18b1 : (t186 != t189) = false := bne_eq_false_iff_eq.mpr c18
          clear c18
          by_cases c19 : t187 = t190
          · rw [if_pos c19] at H
            have c19b0 : (t187 == t190) = true := beq_iff_eq.mpr c19
            have c19b1 : (t187 != t190) = false := bne_eq_false_iff_eq.mpr c19
            clear c19
            by_cases c20 : t188 = t191
            · rw [if_pos c20] at H
              have c20b0 : (t188 == t191) = true := beq_iff_eq.mpr c20
              have c20b1 : (t188 != t191) = false := bne_eq_false_iff_eq.mpr c20
              clear c20
              replace H := Option.bind_eq_some_iff.mp H
              obtain ⟨t206, A210, H⟩ := H
              replace H : ((vedetteref1_Zig.f a1).bind fun t207 => (if t206 = t207 then ((num_Zag.f a0).bind fun t208 => ((vedetteref1_Zag.f a0).bind fun t209 => (if t208 = t209 then ((num_Int.f k a1).bind fun t210 => ((vedetteref1_Int.f k a1).bind fun t211 => (if t210.toList = t211.toList then (if t192 = t195 then (if t193 = t196 then (if t194 = t197 then ((num_Text.f k a2).bind fun t212 => ((vedetteref1_Text.f k a2).bind fun t213 => (if t212.toList = t213.toList then (if t198.toList = t201.toList then (if t199 = t202 then (some (t200 == t203)) else (some false)) else (some false)) else (some false)))) else (some false)) else (some false)) else (some false)) else (some false)))) else (some false)))) else (some false))) = some true := H
              have A21 := Aside0.mk A210
              clear A210
              replace H := Option.bind_eq_some_iff.mp H
              obtain ⟨t207, A220, H⟩ := H
              replace H : (if t206 = t207 then ((num_Zag.f a0).bind fun t208 => ((vedetteref1_Zag.f a0).bind fun t209 => (if t208 = t209 then ((num_Int.f k a1).bind fun t210 => ((vedetteref1_Int.f k a1).bind fun t211 => (if t210.toList = t211.toList then (if t192 = t195 then (if t193 = t196 then (if t194 = t197 then ((num_Text.f k a2).bind fun t212 => ((vedetteref1_Text.f k a2).bind fun t213 => (if t212.toList = t213.toList then (if t198.toList = t201.toList then (if t199 = t202 then (some (t200 == t203)) else (some false)) else (some false)) else (some false)))) else (some false)) else (some false)) else (some false)) else (some false)))) else (some false)))) else (some false)) = some true := H
              have A22 := Aside0.mk A220
              clear A220
              by_cases c23 : t206 = t207
              · rw [if_pos c23] at H
                have c23b0 : (t206 == t207) = true := beq_iff_eq.mpr c23
                have c23b1 : (t206 != t207) = false := bne_eq_false_iff_eq.mpr c23
                clear c23
                replace H := Option.bind_eq_some_iff.mp H
                obtain ⟨t208, A240, H⟩ := H
                replace H : ((vedetteref1_Zag.f a0).bind fun t209 => (if t208 = t209 then ((num_Int.f k a1).bind fun t210 => ((vedetteref1_Int.f k a1).bind fun t211 => (if t210.toList = t211.toList then (if t192 = t195 then (if t193 = t196 then (if t194 = t197 then ((num_Text.f k a2).bind fun t212 => ((vedetteref1_Text.f k a2).bind fun t213 => (if t212.toList = t213.toList then (if t198.toList = t201.toList then (if t199 = t202 then (some (t200 == t203)) else (some false)) else (some false)) else (some false)))) else (some false)) else (some false)) else (some false)) else (some false)))) else (some false))) = some true := H
                have A24 := Aside0.mk A240
                clear A240
                replace H := Option.bind_eq_some_iff.mp H
                obtain ⟨t209, A250, H⟩ := H
                replace H : (if t208 = t209 then ((num_Int.f k a1).bind fun t210 => ((vedetteref1_Int.f k a1).bind fun t211 => (if t210.toList = t211.toList then (if t192 = t195 then (if t193 = t196 then (if t194 = t197 then ((num_Text.f k a2).bind fun t212 => ((vedetteref1_Text.f k a2).bind fun t213 => (if t212.toList = t213.toList then (if t198.toList = t201.toList then (if t199 = t202 then (some (t200 == t203)) else (some false)) else (some false)) else (some false)))) else (some false)) else (some false)) else (some false)) else (some false)))) else (some false)) = some true := H
                have A25 := Aside0.mk A250
                clear A250
                by_cases c26 : t208 = t209
                · rw [if_pos c26] at H
                  have c26b0 : (t208 == t209) = true := beq_iff_eq.mpr c26
                  have c26b1 : (t208 != t209) = false := bne_eq_false_iff_eq.mpr c26
                  clear c26
                  replace H := Option.bind_eq_some_iff.mp H
                  obtain ⟨t210, A270, H⟩ := H
                  replace H : ((vedetteref1_Int.f k a1).bind fun t211 => (if t210.toList = t211.toList then (if t192 = t195 then (if t193 = t196 then (if t194 = t197 then ((num_Text.f k a2).bind fun t212 => ((vedetteref1_Text.f k a2).bind fun t213 => (if t212.toList = t213.toList then (if t198.toList = t201.toList then (if t199 = t202 then (some (t200 == t203)) else (some false)) else (some false)) else (some false)))) else (some false)) else (some false)) else (some false)) else (some false))) = some true := H
                  have A27 := Aside0.mk A270
                  clear A270
                  replace H := Option.bind_eq_some_iff.mp H
                  obtain ⟨t211, A280, H⟩ := H
                  replace H : (if t210.toList = t211.toList then (if t192 = t195 then (if t193 = t196 then (if t194 = t197 then ((num_Text.f k a2).bind fun t212 => ((vedetteref1_Text.f k a2).bind fun t213 => (if t212.toList = t213.toList then (if t198.toList = t201.toList then (if t199 = t202 then (some (t200 == t203)) else (some false)) else (some false)) else (some false)))) else (some false)) else (some false)) else (some false)) else (some false)) = some true := H
                  have A28 := Aside0.mk A280
                  clear A280
                  by_cases c29 : t210.toList = t211.toList
                  · rw [if_pos c29] at H
                    have c29b0 : (t210.toList == t211.toList) = true := beq_iff_eq.mpr c29
                    have c29b1 : (t210.toList != t211.toList) = false := bne_eq_false_iff_eq.mpr c29
                    clear c29
                    by_cases c30 : t192 = t195
                    · rw [if_pos c30] at H
                      have c30b0 : (t192 == t195) = true := beq_iff_eq.mpr c30
                      have c30b1 : (t192 != t195) = false := bne_eq_false_iff_eq.mpr c30
                      clear c30
                      by_cases c31 : t193 = t196
                      · rw [if_pos c31] at H
                        have c31b0 : (t193 == t196) = true := beq_iff_eq.mpr c31
                        have c31b1 : (t193 != t196) = false := bne_eq_false_iff_eq.mpr c31
                        clear c31
                        by_cases c32 : t194 = t197
                        · rw [if_pos c32] at H
                          have c32b0 : (t194 == t197) = true := beq_iff_eq.mpr c32
                          have c32b1 : (t194 != t197) = false := bne_eq_false_iff_eq.mpr c32
                          clear c32
                          replace H := Option.bind_eq_some_iff.mp H
                          obtain ⟨t212, A330, H⟩ := H
                          replace H : ((vedetteref1_Text.f k a2).bind fun t213 => (if t212.toList = t213.toList then (if t198.toList = t201.toList then (if t199 = t202 then (some (t200 == t203)) else (some false)) else (some false)) else (some false))) = some true := H
                          have A33 := Aside0.mk A330
                          clear A330
                          replace H := Option.bind_eq_some_iff.mp H
                          obtain ⟨t213, A340, H⟩ := H
                          replace H : (if t212.toList = t213.toList then (if t198.toList = t201.toList then (if t199 = t202 then (some (t200 == t203)) else (some false)) else (some false)) else (some false)) = some true := H
                          have A34 := Aside0.mk A340
                          clear A340
                          by_cases c35 : t212.toList = t213.toList
                          · rw [if_pos c35] at H
                            have c35b0 : (t212.toList == t213.toList) = true := beq_iff_eq.mpr c35
                            have c35b1 : (t212.toList != t213.toList) = false := bne_eq_false_iff_eq.mpr c35
                            clear c35
                            by_cases c36 : t198.toList = t201.toList
                            · rw [if_pos c36] at H
                              have c36b0 : (t198.toList == t201.toList) = true := beq_iff_eq.mpr c36
                              have c36b1 : (t198.toList != t201.toList) = false := bne_eq_false_iff_eq.mpr c36
                              clear c36
                              by_cases c37 : t199 = t202
                              · rw [if_pos c37] at H
                                have c37b0 : (t199 == t202) = true := beq_iff_eq.mpr c37
                                have c37b1 : (t199 != t202) = false := bne_eq_false_iff_eq.mpr c37
                                clear c37
                                have HE := Aside0.mk (Option.some.inj H)
                                clear H
                                go_enter Try.func7, Try.ntmps7
                                go_wp2_with (first | ((with_reducible refine gate_callee (f := 9) rfl ?_); refine goesL_ (some 27) rfl rfl Try.func9 (by kernel_rfl) rfl #[] rfl (by (try simp only [List.map_toArray, List.map_cons, List.map_nil]); first | done | rfl | (simp only [List.length_drop, List.length_take]; rfl)) ?_; (with_reducible refine (vedettelaw1_known.calls k  true _ A5.out).mono ?_); rintro e w38 ⟨rfl, hb⟩; refine ⟨_, rfl, ?_⟩; have n0_ := Aside0.mk (below_step (by repeat (first | (with_reducible first | exact HB.out | apply below_alloc | apply pw_below_drewN | apply below_drew1) | exact HB.out)) hb); clear HB; have HB := n0_; clear n0_; (try clear hb); (try clear hb2); (try clear hk); (try clear hi)) | ((with_reducible refine gate_callee (f := 12) rfl ?_); refine goesL_ (some 34) rfl rfl Try.func12 (by kernel_rfl) rfl #[.string a2] rfl (by (try simp only [List.map_toArray, List.map_cons, List.map_nil]); first | done | rfl | (simp only [List.length_drop, List.length_take]; rfl)) ?_; (with_reducible refine (num_Get.calls a2 t186 t187 t188 _ A9.out).mono ?_); rintro e w39 ⟨rfl, hb⟩; refine ⟨_, rfl, ?_⟩; have n0_ := Aside0.mk (below_step (by repeat (first | (with_reducible first | exact HB.out | apply below_alloc | apply pw_below_drewN | apply below_drew1) | exact HB.out)) hb); clear HB; have HB := n0_; clear n0_; (try clear hb); (try clear hb2); (try clear hk); (try clear hi)) | ((with_reducible refine gate_callee (f := 14) rfl ?_); refine goesL_ (some 40) rfl rfl Try.func14 (by kernel_rfl) rfl #[.string a2] rfl (by (try simp only [List.map_toArray, List.map_cons, List.map_nil]); first | done | rfl | (simp only [List.length_drop, List.length_take]; rfl)) ?_; (with_reducible refine (vedetteref1_Get.calls k a2 t189 t190 t191 _ A10.out).mono ?_); rintro e w' ⟨rfl, ⟨nd, rfl⟩⟩; refine ⟨_, rfl, ?_⟩) | ((with_reducible refine gate_callee (f := 15) rfl ?_); refine goesL_ (some 46) rfl rfl Try.func15 (by kernel_rfl) rfl #[.string a2] rfl (by (try simp only [List.map_toArray, List.map_cons, List.map_nil]); first | done | rfl | (simp only [List.length_drop, List.length_take]; rfl)) ?_; (with_reducible refine (num_Ints.calls a2 t192 t193 t194 _ A11.out).mono ?_); rintro e w40 ⟨rfl, hb⟩; refine ⟨_, rfl, ?_⟩; have n0_ := Aside0.mk (below_step (by repeat (first | (with_reducible first | exact HB.out | apply below_alloc | apply pw_below_drewN | apply below_drew1) | exact HB.out)) hb); clear HB; have HB := n0_; clear n0_; (try clear hb); (try clear hb2); (try clear hk); (try clear hi)) | ((with_reducible refine gate_callee (f := 16) rfl ?_); refine goesL_ (some 52) rfl rfl Try.func16 (by kernel_rfl) rfl #[.string a2] rfl (by (try simp only [List.map_toArray, List.map_cons, List.map_nil]); first | done | rfl | (simp only [List.length_drop, List.length_take]; rfl)) ?_; (with_reducible refine (vedetteref1_Ints.calls k a2 t195 t196 t197 _ A12.out).mono ?_); rintro e w' ⟨rfl, ⟨nd, rfl⟩⟩; refine ⟨_, rfl, ?_⟩) | ((with_reducible refine gate_callee (f := 13) rfl ?_); refine goesL_ (some 59) rfl rfl Try.func13 (by kernel_rfl) rfl #[.string a2, .int .i64 a3] rfl (by (try simp only [List.map_toArray, List.map_cons, List.map_nil]); first | done | rfl | (simp only [List.length_drop, List.length_take]; rfl)) ?_; (with_reducible refine (num_Texts.calls a2 a3 t198 t199 t200 _ A13.out).mono ?_); rintro e w41 ⟨rfl, hb⟩; refine ⟨_, rfl, ?_⟩; have n0_ := Aside0.mk (below_step (by repeat (first | (with_reducible first | exact HB.out | apply below_alloc | apply pw_below_drewN | apply below_drew1) | exact HB.out)) hb); clear HB; have HB := n0_; clear n0_; (try clear hb); (try clear hb2); (try clear hk); (try clear hi)) | ((with_reducible refine gate_callee (f := 17) rfl ?_); refine goesL_ (some 66) rfl rfl Try.func17 (by kernel_rfl) rfl #[.string a2, .int .i64 a3] rfl (by (try simp only [List.map_toArray, List.map_cons, List.map_nil]); first | done | rfl | (simp only [List.length_drop, List.length_take]; rfl)) ?_; (with_reducible refine (vedetteref1_Texts.calls k a2 a3 t201 t202 t203 _ A14.out).mono ?_); rintro e w42 ⟨rfl, hb⟩; refine ⟨_, rfl, ?_⟩; have n0_ := Aside0.mk (below_step (by repeat (first | (with_reducible first | exact HB.out | apply below_alloc | apply pw_below_drewN | apply below_drew1) | exact HB.out)) hb); clear HB; have HB := n0_; clear n0_; (try clear hb); (try clear hb2); (try clear hk); (try clear hi)) | (go_at_call 10; (with_reducible refine (num_Put.calls k a0 t204 _ A15.out).mono ?_); rintro e w43 ⟨rfl, hb⟩; have n0_ := Aside0.mk (below_step (by repeat (first | (with_reducible first | exact HB.out | apply below_alloc | apply pw_below_drewN | apply below_drew1) | exact HB.out)) hb); clear HB; have HB := n0_; clear n0_; (try clear hb); (try clear hb2); (try clear hk); (try clear hi)) | (go_at_call 18; (with_reducible refine (vedetteref1_Put.calls k a0 t205 _ A16.out).mono ?_); rintro e w44 ⟨rfl, hb⟩; have n0_ := Aside0.mk (below_step (by repeat (first | (with_reducible first | exact HB.out | apply below_alloc | apply pw_below_drewN | apply below_drew1) | exact HB.out)) hb); clear HB; have HB := n0_; clear n0_; (try clear hb); (try clear hb2); (try clear hk); (try clear hi)) | (go_at_call 19; (with_reducible refine (num_Zig.calls a1 t206 _ A21.out).mono ?_); rintro e w' ⟨rfl, ⟨nd, rfl⟩⟩) | (go_at_call 20; (with_reducible refine (vedetteref1_Zig.calls a1 t207 _ A22.out).mono ?_); rintro e w' ⟨rfl, ⟨nd, rfl⟩⟩) | (go_at_call 21; (with_reducible refine (num_Zag.calls a0 t208 _ A24.out).mono ?_); rintro e w' ⟨rfl, ⟨nd, rfl⟩⟩) | (go_at_call 22; (with_reducible refine (vedetteref1_Zag.calls a0 t209 _ A25.out).mono ?_); rintro e w' ⟨rfl, ⟨nd, rfl⟩⟩) | (go_at_call 23; (with_reducible refine (num_Int.calls k a1 t210 _ A27.out).mono ?_); rintro e w45 ⟨rfl, hb⟩; have n0_ := Aside0.mk (below_step (by repeat (first | (with_reducible first | exact HB.out | apply below_alloc | apply pw_below_drewN | apply below_drew1) | exact HB.out)) hb); clear HB; have HB := n0_; clear n0_; (try clear hb); (try clear hb2); (try clear hk); (try clear hi)) | (go_at_call 24; (with_reducible refine (vedetteref1_Int.calls k a1 t211 _ A28.out).mono ?_); rintro e w46 ⟨rfl, hb⟩; have n0_ := Aside0.mk (below_step (by repeat (first | (with_reducible first | exact HB.out | apply below_alloc | apply pw_below_drewN | apply below_drew1) | exact HB.out)) hb); clear HB; have HB := n0_; clear n0_; (try clear hb); (try clear hb2); (try clear hk); (try clear hi)) | (go_at_call 11; (with_reducible refine (num_Text.calls k a2 t212 _ A33.out).mono ?_); rintro e w47 ⟨rfl, hb⟩; have n0_ := Aside0.mk (below_step (by repeat (first | (with_reducible first | exact HB.out | apply below_alloc | apply pw_below_drewN | apply below_drew1) | exact HB.out)) hb); clear HB; have HB := n0_; clear n0_; (try clear hb); (try clear hb2); (try clear hk); (try clear hi)) | (go_at_call 25; (with_reducible refine (vedetteref1_Text.calls k a2 t213 _ A34.out).mono ?_); rintro e w48 ⟨rfl, hb⟩; have n0_ := Aside0.mk (below_step (by repeat (first | (with_reducible first | exact HB.out | apply below_alloc | apply pw_below_drewN | apply below_drew1) | exact HB.out)) hb); clear HB; have HB := n0_; clear n0_; (try clear hb); (try clear hb2); (try clear hk); (try clear hi)))
                                go_ret
                                exact ⟨by first | rfl | exact congrArg (fun b_ => Ending.returned (Value.bool b_)) HE.out | (have he_ := HE.out; simp at he_; simp [he_]; done) | (simp [errW_none, errW_some] <;> rfl) | (simp [*, errW_none, errW_some] <;> rfl), by repeat (first | (with_reducible first | exact HB.out | apply below_alloc | apply pw_below_drewN | apply below_drew1) | exact HB.out)⟩
                              · rw [if_neg c37] at H
                                have c37b0 : (t199 == t202) = false := beq_eq_false_iff_ne.mpr c37
                                have c37b1 : (t199 != t202) = true := bne_iff_ne.mpr c37
                                exact absurd H (by simp)
                            · rw [if_neg c36] at H
                              have c36b0 : (t198.toList == t201.toList) = false := beq_eq_false_iff_ne.mpr c36
                              have c36b1 : (t198.toList != t201.toList) = true := bne_iff_ne.mpr c36
                              exact absurd H (by simp)
                          · rw [if_neg c35] at H
                            have c35b0 : (t212.toList == t213.toList) = false := beq_eq_false_iff_ne.mpr c35
                            have c35b1 : (t212.toList != t213.toList) = true := bne_iff_ne.mpr c35
                            exact absurd H (by simp)
                        · rw [if_neg c32] at H
                          have c32b0 : (t194 == t197) = false := beq_eq_false_iff_ne.mpr c32
                          have c32b1 : (t194 != t197) = true := bne_iff_ne.mpr c32
                          exact absurd H (by simp)
                      · rw [if_neg c31] at H
                        have c31b0 : (t193 == t196) = false := beq_eq_false_iff_ne.mpr c31
                        have c31b1 : (t193 != t196) = true := bne_iff_ne.mpr c31
                        exact absurd H (by simp)
                    · rw [if_neg c30] at H
                      have c30b0 : (t192 == t195) = false := beq_eq_false_iff_ne.mpr c30
                      have c30b1 : (t192 != t195) = true := bne_iff_ne.mpr c30
                      exact absurd H (by simp)
                  · rw [if_neg c29] at H
                    have c29b0 : (t210.toList == t211.toList) = false := beq_eq_false_iff_ne.mpr c29
                    have c29b1 : (t210.toList != t211.toList) = true := bne_iff_ne.mpr c29
                    exact absurd H (by simp)
                · rw [if_neg c26] at H
                  have c26b0 : (t208 == t209) = false := beq_eq_false_iff_ne.mpr c26
                  have c26b1 : (t208 != t209) = true := bne_iff_ne.mpr c26
                  exact absurd H (by simp)
              · rw [if_neg c23] at H
                have c23b0 : (t206 == t207) = false := beq_eq_false_iff_ne.mpr c23
                have c23b1 : (t206 != t207) = true := bne_iff_ne.mpr c23
                exact absurd H (by simp)
            · rw [if_neg c20] at H
              have c20b0 : (t188 == t191) = false := beq_eq_false_iff_ne.mpr c20
              have c20b1 : (t188 != t191) = true := bne_iff_ne.mpr c20
              exact absurd H (by simp)
          · rw [if_neg c19] at H
            have c19b0 : (t187 == t190) = false := beq_eq_false_iff_ne.mpr c19
            have c19b1 : (t187 != t190) = true := bne_iff_ne.mpr c19
            exact absurd H (by simp)
        · rw [if_neg c18] at H
          have c18b0 : (t186 == t189) = false := beq_eq_false_iff_ne.mpr c18
          have c18b1 : (t186 != t189) = true := bne_iff_ne.mpr c18
          exact absurd H (by simp)
      · rw [if_neg c17] at H
        have c17b0 : (t204.toList == t205.toList) = false := beq_eq_false_iff_ne.mpr c17
        have c17b1 : (t204.toList != t205.toList) = true := bne_iff_ne.mpr c17
        exact absurd H (by simp)
  · replace c6 := Bool.eq_false_iff.mpr c6
    subst c6
    have H1 : (some false) = some true := by rw [if_neg (show ¬ (false = true) by decide)] at H; try exact H
    clear H
    have H := H1
    clear H1
    exact absurd H (by simp)

/-- THE ONE PURE STATEMENT of vedettelaw1_NumTells: yours. -/
def vedettelaw1_NumTells.Pure : Prop := ∀ (a0 : Int) (a1 : Int) (a2 : ByteArray) (a3 : Int), (Lit.int .u64 a0).wf = true → (Lit.int .i64 a1).wf = true → a2.size ≤ 140737488351232 → (Lit.int .i64 a3).wf = true → ∃ k, vedettelaw1_NumTells.f k a0 a1 a2 a3 = some true
theorem vedettelaw1_NumTells.walk (P : vedettelaw1_NumTells.Pure) (a0 : Int) (a1 : Int) (a2 : ByteArray) (a3 : Int) (w : World) (w0 : (Lit.int .u64 a0).wf = true) (w1 : (Lit.int .i64 a1).wf = true) (w2 : a2.size ≤ 140737488351232) (w3 : (Lit.int .i64 a3).wf = true) :
    Calls Try.prog 7 #[.int .u64 a0, .int .i64 a1, .string a2, .int .i64 a3] w fun e w' => e = .returned (.bool true) ∧ Below w.heap.size w w' := by
  obtain ⟨k, h⟩ := P a0 a1 a2 a3 w0 w1 w2 w3
  refine (vedettelaw1_NumTells.calls k a0 a1 a2 a3 w h).mono ?_
  rintro e w' ⟨rfl, hd⟩
  exact ⟨rfl, hd⟩

/-! ### vedettelaw1_NumBack: function 8 -/
mutual
def vedettelaw1_NumBack.j0 : Nat → Int → Int → ByteArray → ByteArray → Int → Bool → Option (Bool)
  | 0, _, _, _, _, _, _ => none
  | k + 1, x0, x1, x2, x3, x4, x36 => if x36 = true then (some true) else ((num_Put.f k x0).bind fun t215 => (if t215.size + x3.size ≤ 9223372036854775807 then ((num_Get.f (t215 ++ x3)).bind fun bt216 => ((num_Int.f k x1).bind fun t219 => (if t219.size + x3.size ≤ 9223372036854775807 then ((num_Ints.f (t219 ++ x3)).bind fun bt220 => ((num_Text.f k x2).bind fun t223 => (if t223.size + x3.size ≤ 9223372036854775807 then ((num_Texts.f (t223 ++ x3) (x2.size : Int)).bind fun bt224 => ((num_Put.f k x0).bind fun t227 => (if bt216.2.2 = 0 then (if bt220.2.2 = 0 then (if bt224.2.2 = 0 then (if bt216.1 = x0 then (if bt220.1 = x1 then (if bt224.1.toList = x2.toList then (if bt216.2.1 = (t227.size : Int) then ((num_Int.f k x1).bind fun t228 => (if bt220.2.1 = (t228.size : Int) then ((num_Text.f k x2).bind fun t229 => (if bt224.2.1 = (t229.size : Int) then (vedettelaw1_NumBack.j1 k x0 x1 x2 x3 x4 t227 ((t227.size : Int) == 0)) else (vedettelaw1_NumBack.j1 k x0 x1 x2 x3 x4 t227 true))) else (vedettelaw1_NumBack.j1 k x0 x1 x2 x3 x4 t227 true))) else (vedettelaw1_NumBack.j1 k x0 x1 x2 x3 x4 t227 true)) else (vedettelaw1_NumBack.j1 k x0 x1 x2 x3 x4 t227 true)) else (vedettelaw1_NumBack.j1 k x0 x1 x2 x3 x4 t227 true)) else (vedettelaw1_NumBack.j1 k x0 x1 x2 x3 x4 t227 true)) else (vedettelaw1_NumBack.j1 k x0 x1 x2 x3 x4 t227 true)) else (vedettelaw1_NumBack.j1 k x0 x1 x2 x3 x4 t227 true)) else (vedettelaw1_NumBack.j1 k x0 x1 x2 x3 x4 t227 true)))) else (none)))) else (none)))) else (none)))
def vedettelaw1_NumBack.j1 : Nat → Int → Int → ByteArray → ByteArray → Int → ByteArray → Bool → Option (Bool)
  | 0, _, _, _, _, _, _, _ => none
  | k + 1, x0, x1, x2, x3, x4, x20, x117 => if x117 = true then (some false) else (if (x20.size : Int) = 0 then (none) else (if 0 ≤ (Int.tmod (wrap64 (x4)) (x20.size : Int)) then (if (Int.tmod (wrap64 (x4)) (x20.size : Int)) ≤ (x20.size : Int) then ((num_Get.f (x20.extract 0 ((Int.tmod (wrap64 (x4)) (x20.size : Int)) : Int).toNat)).bind fun bt230 => ((num_Text.f k x2).bind fun t233 => (if t233.size + x3.size ≤ 9223372036854775807 then ((num_Texts.f (t233 ++ x3) (wrap64 ((x2.size : Int) - 1))).bind fun bt234 => (if bt230.2.2 = 10 then (if bt234.2.2 = 13 then ((num_Zig.f x1).bind fun t237 => ((num_Zag.f t237).bind fun t238 => (if t238 = x1 then ((num_Zag.f x0).bind fun t239 => ((num_Zig.f t239).bind fun t240 => (some (t240 == x0)))) else (some false)))) else (if (x2.size : Int) = 0 then ((num_Zig.f x1).bind fun t241 => ((num_Zag.f t241).bind fun t242 => (if t242 = x1 then ((num_Zag.f x0).bind fun t243 => ((num_Zig.f t243).bind fun t244 => (some (t244 == x0)))) else (some false)))) else (some false))) else (some false))) else (none)))) else (none)) else (none)))
end
def vedettelaw1_NumBack.f (k : Nat) (a0 : Int) (a1 : Int) (a2 : ByteArray) (a3 : ByteArray) (a4 : Int) : Option (Bool) := (vedettelaw1_known.f k).bind fun t214 => (if t214 = true then (if (a2.size : Int) > 200 then (vedettelaw1_NumBack.j0 k a0 a1 a2 a3 a4 true) else (vedettelaw1_NumBack.j0 k a0 a1 a2 a3 a4 (decide ((a3.size : Int) > 50)))) else (some false))
theorem vedettelaw1_NumBack.mono_l : ∀ k, (∀ y0 y1 y2 y3 y4 y5, LeO (vedettelaw1_NumBack.j0 k y0 y1 y2 y3 y4 y5) (vedettelaw1_NumBack.j0 (k + 1) y0 y1 y2 y3 y4 y5)) ∧ (∀ y0 y1 y2 y3 y4 y5 y6, LeO (vedettelaw1_NumBack.j1 k y0 y1 y2 y3 y4 y5 y6) (vedettelaw1_NumBack.j1 (k + 1) y0 y1 y2 y3 y4 y5 y6))
  | 0 => ⟨fun _ _ _ _ _ _ r h => by simp [vedettelaw1_NumBack.j0] at h, fun _ _ _ _ _ _ _ r h => by simp [vedettelaw1_NumBack.j1] at h⟩
  | k + 1 => by
    obtain ⟨ih0, ih1⟩ := vedettelaw1_NumBack.mono_l k
    refine ⟨?_, ?_⟩
    · intro y0 y1 y2 y3 y4 y5
      unfold vedettelaw1_NumBack.j0
      repeat' first
      | (with_reducible exact ih0 _ _ _ _ _ _)
      | (with_reducible exact ih1 _ _ _ _ _ _ _)
      | (with_reducible exact num_Int.mono _ _)
      | (with_reducible exact num_Put.mono _ _)
      | (with_reducible exact num_Text.mono _ _)
      | (with_reducible exact vedettelaw1_known.mono _)
      | (with_reducible exact LeO.refl _)
      | (with_reducible exact LeO.none _)
      | (with_reducible refine LeO.ite ?_ ?_)
      | (with_reducible refine LeO.bind ?_ (fun _ => ?_))
      | exact ih0 _ _ _ _ _ _
      | exact ih1 _ _ _ _ _ _ _
      | exact num_Int.mono _ _
      | exact num_Put.mono _ _
      | exact num_Text.mono _ _
      | exact vedettelaw1_known.mono _
      | exact LeO.none _
      | refine LeO.ite ?_ ?_
      | refine LeO.bind ?_ (fun _ => ?_)
    · intro y0 y1 y2 y3 y4 y5 y6
      unfold vedettelaw1_NumBack.j1
      repeat' first
      | (with_reducible exact ih0 _ _ _ _ _ _)
      | (with_reducible exact ih1 _ _ _ _ _ _ _)
      | (with_reducible exact num_Int.mono _ _)
      | (with_reducible exact num_Put.mono _ _)
      | (with_reducible exact num_Text.mono _ _)
      | (with_reducible exact vedettelaw1_known.mono _)
      | (with_reducible exact LeO.refl _)
      | (with_reducible exact LeO.none _)
      | (with_reducible refine LeO.ite ?_ ?_)
      | (with_reducible refine LeO.bind ?_ (fun _ => ?_))
      | exact ih0 _ _ _ _ _ _
      | exact ih1 _ _ _ _ _ _ _
      | exact num_Int.mono _ _
      | exact num_Put.mono _ _
      | exact num_Text.mono _ _
      | exact vedettelaw1_known.mono _
      | exact LeO.none _
      | refine LeO.ite ?_ ?_
      | refine LeO.bind ?_ (fun _ => ?_)
theorem vedettelaw1_NumBack.mono : ∀ a0 a1 a2 a3 a4 k, LeO (vedettelaw1_NumBack.f k a0 a1 a2 a3 a4) (vedettelaw1_NumBack.f (k + 1) a0 a1 a2 a3 a4) := by
  intro a0 a1 a2 a3 a4 k
  obtain ⟨ih0, ih1⟩ := vedettelaw1_NumBack.mono_l k
  unfold vedettelaw1_NumBack.f
  repeat' first
      | (with_reducible exact ih0 _ _ _ _ _ _)
      | (with_reducible exact ih1 _ _ _ _ _ _ _)
      | (with_reducible exact num_Int.mono _ _)
      | (with_reducible exact num_Put.mono _ _)
      | (with_reducible exact num_Text.mono _ _)
      | (with_reducible exact vedettelaw1_known.mono _)
      | (with_reducible exact LeO.refl _)
      | (with_reducible exact LeO.none _)
      | (with_reducible refine LeO.ite ?_ ?_)
      | (with_reducible refine LeO.bind ?_ (fun _ => ?_))
      | exact ih0 _ _ _ _ _ _
      | exact ih1 _ _ _ _ _ _ _
      | exact num_Int.mono _ _
      | exact num_Put.mono _ _
      | exact num_Text.mono _ _
      | exact vedettelaw1_known.mono _
      | exact LeO.none _
      | refine LeO.ite ?_ ?_
      | refine LeO.bind ?_ (fun _ => ?_)
set_option maxHeartbeats 8000000 in
set_option maxRecDepth 100000 in
theorem vedettelaw1_NumBack.calls (k : Nat) (a0 : Int) (a1 : Int) (a2 : ByteArray) (a3 : ByteArray) (a4 : Int) (w : World) (h : vedettelaw1_NumBack.f k a0 a1 a2 a3 a4 = some true) :
    Calls Try.prog 8 #[.int .u64 a0, .int .i64 a1, .string a2, .string a3, .int .u8 a4] w fun e w' => e = .returned (.bool true) ∧ Below w.heap.size w w' := by
  have HB := Aside0.mk (Below.refl w.heap.size w)
  have H : ((vedettelaw1_known.f k).bind fun t214 => (if t214 = true then (if (a2.size : Int) > 200 then (vedettelaw1_NumBack.j0 k a0 a1 a2 a3 a4 true) else (vedettelaw1_NumBack.j0 k a0 a1 a2 a3 a4 (decide ((a3.size : Int) > 50)))) else (some false))) = some true := h
  clear h
  replace H := Option.bind_eq_some_iff.mp H
  obtain ⟨t214, A60, H⟩ := H
  replace H : (if t214 = true then (if (a2.size : Int) > 200 then (vedettelaw1_NumBack.j0 k a0 a1 a2 a3 a4 true) else (vedettelaw1_NumBack.j0 k a0 a1 a2 a3 a4 (decide ((a3.size : Int) > 50)))) else (some false)) = some true := H
  have A6 := Aside0.mk A60
  clear A60
  by_cases c7 : t214 = true
  · subst c7
    have H1 : (if (a2.size : Int) > 200 then (vedettelaw1_NumBack.j0 k a0 a1 a2 a3 a4 true) else (vedettelaw1_NumBack.j0 k a0 a1 a2 a3 a4 (decide ((a3.size : Int) > 50)))) = some true := by rw [if_pos rfl] at H; try exact H
    clear H
    have H := H1
    clear H1
    have HC8 := Aside0.mk H
    clear H
    go_enter Try.func8, Try.ntmps8
    go_upto_region 3 with (first | ((with_reducible refine gate_callee (f := 9) rfl ?_); refine goesL_ (some 27) rfl rfl Try.func9 (by kernel_rfl) rfl #[] rfl (by (try simp only [List.map_toArray, List.map_cons, List.map_nil]); first | done | rfl | (simp only [List.length_drop, List.length_take]; rfl)) ?_; (with_reducible refine (vedettelaw1_known.calls k  true _ A6.out).mono ?_); rintro e w9 ⟨rfl, hb⟩; refine ⟨_, rfl, ?_⟩; have n0_ := Aside0.mk (below_step (by repeat (first | (with_reducible first | exact HB.out | apply below_alloc | apply pw_below_drewN | apply below_drew1) | exact HB.out)) hb); clear HB; have HB := n0_; clear n0_; (try clear hb); (try clear hb2); (try clear hk); (try clear hi)))
    (try simp only [Act.put, List.setIfInBounds_toArray, List.set_cons_zero, List.set_cons_succ])
    go_cut [36] (fun v36 wc => ∃ (kq : Nat) (x36_7 : Bool), v36 = .bool x36_7 ∧ Aside0 (vedettelaw1_NumBack.j0 kq a0 a1 a2 a3 a4 x36_7 = some true) ∧ Aside0 (kq ≤ k) ∧ Aside0 (Below w.heap.size w wc))
    case first =>
      have H := HC8.out
      clear HC8
      by_cases c10 : (a2.size : Int) > 200
      · rw [if_pos c10] at H
        have c10b0 : decide (200 < (a2.size : Int)) = true := decide_eq_true c10
        have c10b1 : decide (200 < a2.size) = true := decide_eq_true (by omega)
        clear c10
        (first | rw [c10b0] | (simp only [i64_w, i32_w]; rw [c10b0]) | skip)
        have H' := Aside0.mk H
        clear H
        go_wp2
        go_meet
        case rel => exact ⟨_, (true), (by first | rfl | (simp; done) | (simp [*]; done)), H', ⟨by first | omega | exact Nat.le_refl _⟩, ⟨by repeat (first | (with_reducible first | exact HB.out | apply below_alloc | apply pw_below_drewN | apply below_drew1) | exact HB.out)⟩⟩
      · rw [if_neg c10] at H
        have c10b0 : decide (200 < (a2.size : Int)) = false := decide_eq_false c10
        have c10b1 : decide (200 < a2.size) = false := decide_eq_false (by omega)
        clear c10
        (first | rw [c10b0] | (simp only [i64_w, i32_w]; rw [c10b0]) | skip)
        have H' := Aside0.mk H
        clear H
        go_wp2
        go_meet
        case rel => exact ⟨_, (decide ((a3.size : Int) > 50)), (by first | rfl | (simp; done) | (simp [*]; done)), H', ⟨by first | omega | exact Nat.le_refl _⟩, ⟨by repeat (first | (with_reducible first | exact HB.out | apply below_alloc | apply pw_below_drewN | apply below_drew1) | exact HB.out)⟩⟩
    case rest =>
      clear HC8
      try clear c1
      try clear p2
      try clear c7
      try clear c8
      try clear c9
      try clear c10
      try clear c10b0
      try clear c10b1
      obtain ⟨kq, x36_7, rfl, HA, HJ7, HB⟩ := hcut
      cases kq with
      | zero => exact absurd HA.out (by simp [vedettelaw1_NumBack.j0])
      | succ kj7 =>
        have H := HA.out
        clear HA
        simp only [vedettelaw1_NumBack.j0] at H
        by_cases c11 : x36_7 = true
        · subst c11
          have H1 : (some true) = some true := by rw [if_pos rfl] at H; try exact H
          clear H
          have H := H1
          clear H1
          clear H
          go_wp2
          go_ret
          exact ⟨by first | rfl | exact congrArg (fun b_ => Ending.returned (Value.bool b_)) HE.out | (have he_ := HE.out; simp at he_; simp [he_]; done) | (simp [errW_none, errW_some] <;> rfl) | (simp [*, errW_none, errW_some] <;> rfl), by repeat (first | (with_reducible first | exact HB.out | apply below_alloc | apply pw_below_drewN | apply below_drew1) | exact HB.out)⟩
        · replace c11 := Bool.eq_false_iff.mpr c11
          subst c11
          have H1 : ((num_Put.f kj7 a0).bind fun t215 => (if t215.size + a3.size ≤ 9223372036854775807 then ((num_Get.f (t215 ++ a3)).bind fun bt216 => ((num_Int.f kj7 a1).bind fun t219 => (if t219.size + a3.size ≤ 9223372036854775807 then ((num_Ints.f (t219 ++ a3)).bind fun bt220 => ((num_Text.f kj7 a2).bind fun t223 => (if t223.size + a3.size ≤ 9223372036854775807 then ((num_Texts.f (t223 ++ a3) (a2.size : Int)).bind fun bt224 => ((num_Put.f kj7 a0).bind fun t227 => (if bt216.2.2 = 0 then (if bt220.2.2 = 0 then (if bt224.2.2 = 0 then (if bt216.1 = a0 then (if bt220.1 = a1 then (if bt224.1.toList = a2.toList then (if bt216.2.1 = (t227.size : Int) then ((num_Int.f kj7 a1).bind fun t228 => (if bt220.2.1 = (t228.size : Int) then ((num_Text.f kj7 a2).bind fun t229 => (if bt224.2.1 = (t229.size : Int) then (vedettelaw1_NumBack.j1 kj7 a0 a1 a2 a3 a4 t227 ((t227.size : Int) == 0)) else (vedettelaw1_NumBack.j1 kj7 a0 a1 a2 a3 a4 t227 true))) else (vedettelaw1_NumBack.j1 kj7 a0 a1 a2 a3 a4 t227 true))) else (vedettelaw1_NumBack.j1 kj7 a0 a1 a2 a3 a4 t227 true)) else (vedettelaw1_NumBack.j1 kj7 a0 a1 a2 a3 a4 t227 true)) else (vedettelaw1_NumBack.j1 kj7 a0 a1 a2 a3 a4 t227 true)) else (vedettelaw1_NumBack.j1 kj7 a0 a1 a2 a3 a4 t227 true)) else (vedettelaw1_NumBack.j1 kj7 a0 a1 a2 a3 a4 t227 true)) else (vedettelaw1_NumBack.j1 kj7 a0 a1 a2 a3 a4 t227 true)) else (vedettelaw1_NumBack.j1 kj7 a0 a1 a2 a3 a4 t227 true)))) else (none)))) else (none)))) else (none))) = some true := by rw [if_neg (show ¬ (false = true) by decide)] at H; try exact H
          clear H
          have H := H1
          clear H1
          replace H := Option.bind_eq_some_iff.mp H
          obtain ⟨t215, A120, H⟩ := H
          replace H : (if t215.size + a3.size ≤ 9223372036854775807 then ((num_Get.f (t215 ++ a3)).bind fun bt216 => ((num_Int.f kj7 a1).bind fun t219 => (if t219.size + a3.size ≤ 9223372036854775807 then ((num_Ints.f (t219 ++ a3)).bind fun bt220 => ((num_Text.f kj7 a2).bind fun t223 => (if t223.size + a3.size ≤ 9223372036854775807 then ((num_Texts.f (t223 ++ a3) (a2.size : Int)).bind fun bt224 => ((num_Put.f kj7 a0).bind fun t227 => (if bt216.2.2 = 0 then (if bt220.2.2 = 0 then (if bt224.2.2 = 0 then (if bt216.1 = a0 then (if bt220.1 = a1 then (if bt224.1.toList = a2.toList then (if bt216.2.1 = (t227.size : Int) then ((num_Int.f kj7 a1).bind fun t228 => (if bt220.2.1 = (t228.size : Int) then ((num_Text.f kj7 a2).bind fun t229 => (if bt224.2.1 = (t229.size : Int) then (vedettelaw1_NumBack.j1 kj7 a0 a1 a2 a3 a4 t227 ((t227.size : Int) == 0)) else (vedettelaw1_NumBack.j1 kj7 a0 a1 a2 a3 a4 t227 true))) else (vedettelaw1_NumBack.j1 kj7 a0 a1 a2 a3 a4 t227 true))) else (vedettelaw1_NumBack.j1 kj7 a0 a1 a2 a3 a4 t227 true)) else (vedettelaw1_NumBack.j1 kj7 a0 a1 a2 a3 a4 t227 true)) else (vedettelaw1_NumBack.j1 kj7 a0 a1 a2 a3 a4 t227 true)) else (vedettelaw1_NumBack.j1 kj7 a0 a1 a2 a3 a4 t227 true)) else (vedettelaw1_NumBack.j1 kj7 a0 a1 a2 a3 a4 t227 true)) else (vedettelaw1_NumBack.j1 kj7 a0 a1 a2 a3 a4 t227 true)) else (vedettelaw1_NumBack.j1 kj7 a0 a1 a2 a3 a4 t227 true)))) else (none)))) else (none)))) else (none)) = some true := H
          have A12 := Aside0.mk A120
          clear A120
          by_cases c13 : t215.size + a3.size ≤ 9223372036854775807
          · rw [if_pos c13] at H
            have c13b0 := eq_true c13
            have c13b1 : decide (t215.size + a3.size ≤ 9223372036854775807) = true := decide_eq_true c13
            try have c13b2 : (9223372036854775807 < t215.size + a3.size) = False := eq_false (Nat.not_lt.2 c13)
            clear c13
            replace H := Option.bind_eq_some_iff.mp H
            obtain ⟨⟨t216, t217, t218⟩, A140, H⟩ := H
            replace H : ((num_Int.f kj7 a1).bind fun t219 => (if t219.size + a3.size ≤ 9223372036854775807 then ((num_Ints.f (t219 ++ a3)).bind fun bt220 => ((num_Text.f kj7 a2).bind fun t223 => (if t223.size + a3.size ≤ 9223372036854775807 then ((num_Texts.f (t223 ++ a3) (a2.size : Int)).bind fun bt224 => ((num_Put.f kj7 a0).bind fun t227 => (if t218 = 0 then (if bt220.2.2 = 0 then (if bt224.2.2 = 0 then (if t216 = a0 then (if bt220.1 = a1 then (if bt224.1.toList = a2.toList then (if t217 = (t227.size : Int) then ((num_Int.f kj7 a1).bind fun t228 => (if bt220.2.1 = (t228.size : Int) then ((num_Text.f kj7 a2).bind fun t229 => (if bt224.2.1 = (t229.size : Int) then (vedettelaw1_NumBack.j1 kj7 a0 a1 a2 a3 a4 t227 ((t227.size : Int) == 0)) else (vedettelaw1_NumBack.j1 kj7 a0 a1 a2 a3 a4 t227 true))) else (vedettelaw1_NumBack.j1 kj7 a0 a1 a2 a3 a4 t227 true))) else (vedettelaw1_NumBack.j1 kj7 a0 a1 a2 a3 a4 t227 true)) else (vedettelaw1_NumBack.j1 kj7 a0 a1 a2 a3 a4 t227 true)) else (vedettelaw1_NumBack.j1 kj7 a0 a1 a2 a3 a4 t227 true)) else (vedettelaw1_NumBack.j1 kj7 a0 a1 a2 a3 a4 t227 true)) else (vedettelaw1_NumBack.j1 kj7 a0 a1 a2 a3 a4 t227 true)) else (vedettelaw1_NumBack.j1 kj7 a0 a1 a2 a3 a4 t227 true)) else (vedettelaw1_NumBack.j1 kj7 a0 a1 a2 a3 a4 t227 true)))) else (none)))) else (none))) = some true := H
            have A14 := Aside0.mk A140
            clear A140
            replace H := Option.bind_eq_some_iff.mp H
            obtain ⟨t219, A150, H⟩ := H
            replace H : (if t219.size + a3.size ≤ 9223372036854775807 then ((num_Ints.f (t219 ++ a3)).bind fun bt220 => ((num_Text.f kj7 a2).bind fun t223 => (if t223.size + a3.size ≤ 9223372036854775807 then ((num_Texts.f (t223 ++ a3) (a2.size : Int)).bind fun bt224 => ((num_Put.f kj7 a0).bind fun t227 => (if t218 = 0 then (if bt220.2.2 = 0 then (if bt224.2.2 = 0 then (if t216 = a0 then (if bt220.1 = a1 then (if bt224.1.toList = a2.toList then (if t217 = (t227.size : Int) then ((num_Int.f kj7 a1).bind fun t228 => (if bt220.2.1 = (t228.size : Int) then ((num_Text.f kj7 a2).bind fun t229 => (if bt224.2.1 = (t229.size : Int) then (vedettelaw1_NumBack.j1 kj7 a0 a1 a2 a3 a4 t227 ((t227.size : Int) == 0)) else (vedettelaw1_NumBack.j1 kj7 a0 a1 a2 a3 a4 t227 true))) else (vedettelaw1_NumBack.j1 kj7 a0 a1 a2 a3 a4 t227 true))) else (vedettelaw1_NumBack.j1 kj7 a0 a1 a2 a3 a4 t227 true)) else (vedettelaw1_NumBack.j1 kj7 a0 a1 a2 a3 a4 t227 true)) else (vedettelaw1_NumBack.j1 kj7 a0 a1 a2 a3 a4 t227 true)) else (vedettelaw1_NumBack.j1 kj7 a0 a1 a2 a3 a4 t227 true)) else (vedettelaw1_NumBack.j1 kj7 a0 a1 a2 a3 a4 t227 true)) else (vedettelaw1_NumBack.j1 kj7 a0 a1 a2 a3 a4 t227 true)) else (vedettelaw1_NumBack.j1 kj7 a0 a1 a2 a3 a4 t227 true)))) else (none)))) else (none)) = some true := H
            have A15 := Aside0.mk A150
            clear A150
            by_cases c16 : t219.size + a3.size ≤ 9223372036854775807
            · rw [if_pos c16] at H
              have c16b0 := eq_true c16
              have c16b1 : decide (t219.size + a3.size ≤ 9223372036854775807) = true := decide_eq_true c16
              try have c16b2 : (9223372036854775807 < t219.size + a3.size) = False := eq_false (Nat.not_lt.2 c16)
              clear c16
              replace H := Option.bind_eq_some_iff.mp H
              obtain ⟨⟨t220, t221, t222⟩, A170, H⟩ := H
              replace H : ((num_Text.f kj7 a2).bind fun t223 => (if t223.size + a3.size ≤ 9223372036854775807 then ((num_Texts.f (t223 ++ a3) (a2.size : Int)).bind fun bt224 => ((num_Put.f kj7 a0).bind fun t227 => (if t218 = 0 then (if t222 = 0 then (if bt224.2.2 = 0 then (if t216 = a0 then (if t220 = a1 then (if bt224.1.toList = a2.toList then (if t217 = (t227.size : Int) then ((num_Int.f kj7 a1).bind fun t228 => (if t221 = (t228.size : Int) then ((num_Text.f kj7 a2).bind fun t229 => (if bt224.2.1 = (t229.size : Int) then (vedettelaw1_NumBack.j1 kj7 a0 a1 a2 a3 a4 t227 ((t227.size : Int) == 0)) else (vedettelaw1_NumBack.j1 kj7 a0 a1 a2 a3 a4 t227 true))) else (vedettelaw1_NumBack.j1 kj7 a0 a1 a2 a3 a4 t227 true))) else (vedettelaw1_NumBack.j1 kj7 a0 a1 a2 a3 a4 t227 true)) else (vedettelaw1_NumBack.j1 kj7 a0 a1 a2 a3 a4 t227 true)) else (vedettelaw1_NumBack.j1 kj7 a0 a1 a2 a3 a4 t227 true)) else (vedettelaw1_NumBack.j1 kj7 a0 a1 a2 a3 a4 t227 true)) else (vedettelaw1_NumBack.j1 kj7 a0 a1 a2 a3 a4 t227 true)) else (vedettelaw1_NumBack.j1 kj7 a0 a1 a2 a3 a4 t227 true)) else (vedettelaw1_NumBack.j1 kj7 a0 a1 a2 a3 a4 t227 true)))) else (none))) = some true := H
              have A17 := Aside0.mk A170
              clear A170
              replace H := Option.bind_eq_some_iff.mp H
              obtain ⟨t223, A180, H⟩ := H
              replace H : (if t223.size + a3.size ≤ 9223372036854775807 then ((num_Texts.f (t223 ++ a3) (a2.size : Int)).bind fun bt224 => ((num_Put.f kj7 a0).bind fun t227 => (if t218 = 0 then (if t222 = 0 then (if bt224.2.2 = 0 then (if t216 = a0 then (if t220 = a1 then (if bt224.1.toList = a2.toList then (if t217 = (t227.size : Int) then ((num_Int.f kj7 a1).bind fun t228 => (if t221 = (t228.size : Int) then ((num_Text.f kj7 a2).bind fun t229 => (if bt224.2.1 = (t229.size : Int) then (vedettelaw1_NumBack.j1 kj7 a0 a1 a2 a3 a4 t227 ((t227.size : Int) == 0)) else (vedettelaw1_NumBack.j1 kj7 a0 a1 a2 a3 a4 t227 true))) else (vedettelaw1_NumBack.j1 kj7 a0 a1 a2 a3 a4 t227 true))) else (vedettelaw1_NumBack.j1 kj7 a0 a1 a2 a3 a4 t227 true)) else (vedettelaw1_NumBack.j1 kj7 a0 a1 a2 a3 a4 t227 true)) else (vedettelaw1_NumBack.j1 kj7 a0 a1 a2 a3 a4 t227 true)) else (vedettelaw1_NumBack.j1 kj7 a0 a1 a2 a3 a4 t227 true)) else (vedettelaw1_NumBack.j1 kj7 a0 a1 a2 a3 a4 t227 true)) else (vedettelaw1_NumBack.j1 kj7 a0 a1 a2 a3 a4 t227 true)) else (vedettelaw1_NumBack.j1 kj7 a0 a1 a2 a3 a4 t227 true)))) else (none)) = some true := H
              have A18 := Aside0.mk A180
              clear A180
              by_cases c19 : t223.size + a3.size ≤ 9223372036854775807
              · rw [if_pos c19] at H
                have c19b0 := eq_true c19
                have c19b1 : decide (t223.size + a3.size ≤ 9223372036854775807) = true := decide_eq_true c19
                try have c19b2 : (9223372036854775807 < t223.size + a3.size) = False := eq_false (Nat.not_lt.2 c19)
                clear c19
                replace H := Option.bind_eq_some_iff.mp H
                obtain ⟨⟨t224, t225, t226⟩, A200, H⟩ := H
                replace H : ((num_Put.f kj7 a0).bind fun t227 => (if t218 = 0 then (if t222 = 0 then (if t226 = 0 then (if t216 = a0 then (if t220 = a1 then (if t224.toList = a2.toList then (if t217 = (t227.size : Int) then ((num_Int.f kj7 a1).bind fun t228 => (if t221 = (t228.size : Int) then ((num_Text.f kj7 a2).bind fun t229 => (if t225 = (t229.size : Int) then (vedettelaw1_NumBack.j1 kj7 a0 a1 a2 a3 a4 t227 ((t227.size : Int) == 0)) else (vedettelaw1_NumBack.j1 kj7 a0 a1 a2 a3 a4 t227 true))) else (vedettelaw1_NumBack.j1 kj7 a0 a1 a2 a3 a4 t227 true))) else (vedettelaw1_NumBack.j1 kj7 a0 a1 a2 a3 a4 t227 true)) else (vedettelaw1_NumBack.j1 kj7 a0 a1 a2 a3 a4 t227 true)) else (vedettelaw1_NumBack.j1 kj7 a0 a1 a2 a3 a4 t227 true)) else (vedettelaw1_NumBack.j1 kj7 a0 a1 a2 a3 a4 t227 true)) else (vedettelaw1_NumBack.j1 kj7 a0 a1 a2 a3 a4 t227 true)) else (vedettelaw1_NumBack.j1 kj7 a0 a1 a2 a3 a4 t227 true)) else (vedettelaw1_NumBack.j1 kj7 a0 a1 a2 a3 a4 t227 true))) = some true := H
                have A20 := Aside0.mk A200
                clear A200
                replace H := Option.bind_eq_some_iff.mp H
                obtain ⟨t227, A210, H⟩ := H
                replace H : (if t218 = 0 then (if t222 = 0 then (if t226 = 0 then (if t216 = a0 then (if t220 = a1 then (if t224.toList = a2.toList then (if t217 = (t227.size : Int) then ((num_Int.f kj7 a1).bind fun t228 => (if t221 = (t228.size : Int) then ((num_Text.f kj7 a2).bind fun t229 => (if t225 = (t229.size : Int) then (vedettelaw1_NumBack.j1 kj7 a0 a1 a2 a3 a4 t227 ((t227.size : Int) == 0)) else (vedettelaw1_NumBack.j1 kj7 a0 a1 a2 a3 a4 t227 true))) else (vedettelaw1_NumBack.j1 kj7 a0 a1 a2 a3 a4 t227 true))) else (vedettelaw1_NumBack.j1 kj7 a0 a1 a2 a3 a4 t227 true)) else (vedettelaw1_NumBack.j1 kj7 a0 a1 a2 a3 a4 t227 true)) else (vedettelaw1_NumBack.j1 kj7 a0 a1 a2 a3 a4 t227 true)) else (vedettelaw1_NumBack.j1 kj7 a0 a1 a2 a3 a4 t227 true)) else (vedettelaw1_NumBack.j1 kj7 a0 a1 a2 a3 a4 t227 true)) else (vedettelaw1_NumBack.j1 kj7 a0 a1 a2 a3 a4 t227 true)) else (vedettelaw1_NumBack.j1 kj7 a0 a1 a2 a3 a4 t227 true)) = some true := H
                have A21 := Aside0.mk A210
                clear A210
                have HC22 := Aside0.mk H
                clear H
                go_upto_region 9 with (first | ((with_reducible refine gate_callee (f := 10) rfl ?_); refine goesL_ (some 39) rfl rfl Try.func10 (by kernel_rfl) rfl #[.int .u64 a0] rfl (by (try simp only [List.map_toArray, List.map_cons, List.map_nil]); first | done | rfl | (simp only [List.length_drop, List.length_take]; rfl)) ?_; (with_reducible refine (num_Put.calls kj7 a0 t215 _ A12.out).mono ?_); rintro e w23 ⟨rfl, hb⟩; refine ⟨_, rfl, ?_⟩; have n0_ := Aside0.mk (below_step (by repeat (first | (with_reducible first | exact HB.out | apply below_alloc | apply pw_below_drewN | apply below_drew1) | exact HB.out)) hb); clear HB; have HB := n0_; clear n0_; (try clear hb); (try clear hb2); (try clear hk); (try clear hi)) | ((with_reducible refine gate_callee (f := 12) rfl ?_); refine goesL_ (some 42) rfl rfl Try.func12 (by kernel_rfl) rfl #[.string (t215 ++ a3)] rfl (by (try simp only [List.map_toArray, List.map_cons, List.map_nil]); first | done | rfl | (simp only [List.length_drop, List.length_take]; rfl)) ?_; (with_reducible refine (num_Get.calls (t215 ++ a3) t216 t217 t218 _ A14.out).mono ?_); rintro e w24 ⟨rfl, hb⟩; refine ⟨_, rfl, ?_⟩; have n0_ := Aside0.mk (below_step (by repeat (first | (with_reducible first | exact HB.out | apply below_alloc | apply pw_below_drewN | apply below_drew1) | exact HB.out)) hb); clear HB; have HB := n0_; clear n0_; (try clear hb); (try clear hb2); (try clear hk); (try clear hi)) | ((with_reducible refine gate_callee (f := 23) rfl ?_); refine goesL_ (some 48) rfl rfl Try.func23 (by kernel_rfl) rfl #[.int .i64 a1] rfl (by (try simp only [List.map_toArray, List.map_cons, List.map_nil]); first | done | rfl | (simp only [List.length_drop, List.length_take]; rfl)) ?_; (with_reducible refine (num_Int.calls kj7 a1 t219 _ A15.out).mono ?_); rintro e w25 ⟨rfl, hb⟩; refine ⟨_, rfl, ?_⟩; have n0_ := Aside0.mk (below_step (by repeat (first | (with_reducible first | exact HB.out | apply below_alloc | apply pw_below_drewN | apply below_drew1) | exact HB.out)) hb); clear HB; have HB := n0_; clear n0_; (try clear hb); (try clear hb2); (try clear hk); (try clear hi)) | ((with_reducible refine gate_callee (f := 15) rfl ?_); refine goesL_ (some 51) rfl rfl Try.func15 (by kernel_rfl) rfl #[.string (t219 ++ a3)] rfl (by (try simp only [List.map_toArray, List.map_cons, List.map_nil]); first | done | rfl | (simp only [List.length_drop, List.length_take]; rfl)) ?_; (with_reducible refine (num_Ints.calls (t219 ++ a3) t220 t221 t222 _ A17.out).mono ?_); rintro e w26 ⟨rfl, hb⟩; refine ⟨_, rfl, ?_⟩; have n0_ := Aside0.mk (below_step (by repeat (first | (with_reducible first | exact HB.out | apply below_alloc | apply pw_below_drewN | apply below_drew1) | exact HB.out)) hb); clear HB; have HB := n0_; clear n0_; (try clear hb); (try clear hb2); (try clear hk); (try clear hi)) | ((with_reducible refine gate_callee (f := 11) rfl ?_); refine goesL_ (some 57) rfl rfl Try.func11 (by kernel_rfl) rfl #[.string a2] rfl (by (try simp only [List.map_toArray, List.map_cons, List.map_nil]); first | done | rfl | (simp only [List.length_drop, List.length_take]; rfl)) ?_; (with_reducible refine (num_Text.calls kj7 a2 t223 _ A18.out).mono ?_); rintro e w27 ⟨rfl, hb⟩; refine ⟨_, rfl, ?_⟩; have n0_ := Aside0.mk (below_step (by repeat (first | (with_reducible first | exact HB.out | apply below_alloc | apply pw_below_drewN | apply below_drew1) | exact HB.out)) hb); clear HB; have HB := n0_; clear n0_; (try clear hb); (try clear hb2); (try clear hk); (try clear hi)) | ((with_reducible refine gate_callee (f := 13) rfl ?_); refine goesL_ (some 62) rfl rfl Try.func13 (by kernel_rfl) rfl #[.string (t223 ++ a3), .int .i64 (a2.size : Int)] rfl (by (try simp only [List.map_toArray, List.map_cons, List.map_nil]); first | done | rfl | (simp only [List.length_drop, List.length_take]; rfl)) ?_; (with_reducible refine (num_Texts.calls (t223 ++ a3) (a2.size : Int) t224 t225 t226 _ A20.out).mono ?_); rintro e w28 ⟨rfl, hb⟩; refine ⟨_, rfl, ?_⟩; have n0_ := Aside0.mk (below_step (by repeat (first | (with_reducible first | exact HB.out | apply below_alloc | apply pw_below_drewN | apply below_drew1) | exact HB.out)) hb); clear HB; have HB := n0_; clear n0_; (try clear hb); (try clear hb2); (try clear hk); (try clear hi)) | ((with_reducible refine gate_callee (f := 10) rfl ?_); refine goesL_ (some 67) rfl rfl Try.func10 (by kernel_rfl) rfl #[.int .u64 a0] rfl (by (try simp only [List.map_toArray, List.map_cons, List.map_nil]); first | done | rfl | (simp only [List.length_drop, List.length_take]; rfl)) ?_; (with_reducible refine (num_Put.calls kj7 a0 t227 _ A21.out).mono ?_); rintro e w29 ⟨rfl, hb⟩; refine ⟨_, rfl, ?_⟩; have n0_ := Aside0.mk (below_step (by repeat (first | (with_reducible first | exact HB.out | apply below_alloc | apply pw_below_drewN | apply below_drew1) | exact HB.out)) hb); clear HB; have HB := n0_; clear n0_; (try clear hb); (try clear hb2); (try clear hk); (try clear hi)))
                (try simp only [Act.put, List.setIfInBounds_toArray, List.set_cons_zero, List.set_cons_succ])
                go_cut [117] (fun v117 wc => ∃ (kq : Nat) (x117_21 : Bool), v117 = .bool x117_21 ∧ Aside0 (vedettelaw1_NumBack.j1 kq a0 a1 a2 a3 a4 t227 x117_21 = some true) ∧ Aside0 (kq ≤ kj7) ∧ Aside0 (Below w.heap.size w wc))
                case first =>
                  have H := HC22.out
                  clear HC22
                  by_cases c30 : t218 = 0
                  · rw [if_pos c30] at H
                    have c30b0 : (t218 == 0) = true := beq_iff_eq.mpr c30
                    have c30b1 : (t218 != 0) = false := bne_eq_false_iff_eq.mpr c30
                    clear c30
                    (first | rw [c30b0] | (simp only [i64_w, i32_w]; rw [c30b0]) | skip)
                    by_cases c31 : t222 = 0
                    · rw [if_pos c31] at H
                      have c31b0 : (t222 == 0) = true := beq_iff_eq.mpr c31
                      have c31b1 : (t222 != 0) = false := bne_eq_false_iff_eq.mpr c31
                      clear c31
                      by_cases c32 : t226 = 0
                      · rw [if_pos c32] at H
                        have c32b0 : (t226 == 0) = true := beq_iff_eq.mpr c32
                        have c32b1 : (t226 != 0) = false := bne_eq_false_iff_eq.mpr c32
                        clear c32
                        by_cases c33 : t216 = a0
                        · rw [if_pos c33] at H
                          have c33b0 : (t216 == a0) = true := beq_iff_eq.mpr c33
                          have c33b1 : (t216 != a0) = false := bne_eq_false_iff_eq.mpr c33
                          clear c33
                          by_cases c34 : t220 = a1
                          · rw [if_pos c34] at H
                            have c34b0 : (t220 == a1) = true := beq_iff_eq.mpr c34
                            have c34b1 : (t220 != a1) = false := bne_eq_false_iff_eq.mpr c34
                            clear c34
                            by_cases c35 : t224.toList = a2.toList
                            · rw [if_pos c35] at H
                              have c35b0 : (t224.toList == a2.toList) = true := beq_iff_eq.mpr c35
                              have c35b1 : (t224.toList != a2.toList) = false := bne_eq_false_iff_eq.mpr c35
                              clear c35
                              by_cases c36 : t217 = (t227.size : Int)
                              · rw [if_pos c36] at H
                                have c36b0 : (t217 == (t227.size : Int)) = true := beq_iff_eq.mpr c36
                                have c36b1 : (t217 != (t227.size : Int)) = false := bne_eq_false_iff_eq.mpr c36
                                clear c36
                                replace H := Option.bind_eq_some_iff.mp H
                                obtain ⟨t228, A370, H⟩ := H
                                replace H : (if t221 = (t228.size : Int) then ((num_Text.f kj7 a2).bind fun t229 => (if t225 = (t229.size : Int) then (vedettelaw1_NumBack.j1 kj7 a0 a1 a2 a3 a4 t227 ((t227.size : Int) == 0)) else (vedettelaw1_NumBack.j1 kj7 a0 a1 a2 a3 a4 t227 true))) else (vedettelaw1_NumBack.j1 kj7 a0 a1 a2 a3 a4 t227 true)) = some true := H
                                have A37 := Aside0.mk A370
                                clear A370
                                by_cases c38 : t221 = (t228.size : Int)
                                · rw [if_pos c38] at H
                                  have c38b0 : (t221 == (t228.size : Int)) = true := beq_iff_eq.mpr c38
                                  have c38b1 : (t221 != (t228.size : Int)) = false := bne_eq_false_iff_eq.mpr c38
                                  clear c38
                                  replace H := Option.bind_eq_some_iff.mp H
                                  obtain ⟨t229, A390, H⟩ := H
                                  replace H : (if t225 = (t229.size : Int) then (vedettelaw1_NumBack.j1 kj7 a0 a1 a2 a3 a4 t227 ((t227.size : Int) == 0)) else (vedettelaw1_NumBack.j1 kj7 a0 a1 a2 a3 a4 t227 true)) = some true := H
                                  have A39 := Aside0.mk A390
                                  clear A390
                                  by_cases c40 : t225 = (t229.size : Int)
                                  · rw [if_pos c40] at H
                                    have c40b0 : (t225 == (t229.size : Int)) = true := beq_iff_eq.mpr c40
                                    have c40b1 : (t225 != (t229.size : Int)) = false := bne_eq_false_iff_eq.mpr c40
                                    clear c40
                                    have H' := Aside0.mk H
                                    clear H
                                    go_wp2_with (first | (go_at_call 23; (with_reducible refine (num_Int.calls kj7 a1 t228 _ A37.out).mono ?_); rintro e w41 ⟨rfl, hb⟩; have n0_ := Aside0.mk (below_step (by repeat (first | (with_reducible first | exact HB.out | apply below_alloc | apply pw_below_drewN | apply below_drew1) | exact HB.out)) hb); clear HB; have HB := n0_; clear n0_; (try clear hb); (try clear hb2); (try clear hk); (try clear hi)) | (go_at_call 11; (with_reducible refine (num_Text.calls kj7 a2 t229 _ A39.out).mono ?_); rintro e w42 ⟨rfl, hb⟩; have n0_ := Aside0.mk (below_step (by repeat (first | (with_reducible first | exact HB.out | apply below_alloc | apply pw_below_drewN | apply below_drew1) | exact HB.out)) hb); clear HB; have HB := n0_; clear n0_; (try clear hb); (try clear hb2); (try clear hk); (try clear hi)))
                                    go_meet
                                    case rel => exact ⟨_, (((t227.size : Int) == 0)), (by first | rfl | (simp; done) | (simp [*]; done)), H', ⟨by have := HJ7.out; first | omega | exact Nat.le_refl _⟩, ⟨by repeat (first | (with_reducible first | exact HB.out | apply below_alloc | apply pw_below_drewN | apply below_drew1) | exact HB.out)⟩⟩
                                  · rw [if_neg c40] at H
                                    have c40b0 : (t225 == (t229.size : Int)) = false := beq_eq_false_iff_ne.mpr c40
                                    have c40b1 : (t225 != (t229.size : Int)) = true := bne_iff_ne.mpr c40
                                    have H' := Aside0.mk H
                                    clear H
                                    go_wp2_with (first | (go_at_call 23; (with_reducible refine (num_Int.calls kj7 a1 t228 _ A37.out).mono ?_); rintro e w43 ⟨rfl, hb⟩; have n0_ := Aside0.mk (below_step (by repeat (first | (with_reducible first | exact HB.out | apply below_alloc | apply pw_below_drewN | apply below_drew1) | exact HB.out)) hb); clear HB; have HB := n0_; clear n0_; (try clear hb); (try clear hb2); (try clear hk); (try clear hi)) | (go_at_call 11; (with_reducible refine (num_Text.calls kj7 a2 t229 _ A39.out).mono ?_); rintro e w44 ⟨rfl, hb⟩; have n0_ := Aside0.mk (below_step (by repeat (first | (with_reducible first | exact HB.out | apply below_alloc | apply pw_below_drewN | apply below_drew1) | exact HB.out)) hb); clear HB; have HB := n0_; clear n0_; (try clear hb); (try clear hb2); (try clear hk); (try clear hi)))
                                    go_meet
                                    case rel => exact ⟨_, (true), (by first | rfl | (simp; done) | (simp [*]; done)), H', ⟨by have := HJ7.out; first | omega | exact Nat.le_refl _⟩, ⟨by repeat (first | (with_reducible first | exact HB.out | apply below_alloc | apply pw_below_drewN | apply below_drew1) | exact HB.out)⟩⟩
                                · rw [if_neg c38] at H
                                  have c38b0 : (t221 == (t228.size : Int)) = false := beq_eq_false_iff_ne.mpr c38
                                  have c38b1 : (t221 != (t228.size : Int)) = true := bne_iff_ne.mpr c38
                                  have H' := Aside0.mk H
                                  clear H
                                  go_wp2_with (first | (go_at_call 23; (with_reducible refine (num_Int.calls kj7 a1 t228 _ A37.out).mono ?_); rintro e w45 ⟨rfl, hb⟩; have n0_ := Aside0.mk (below_step (by repeat (first | (with_reducible first | exact HB.out | apply below_alloc | apply pw_below_drewN | apply below_drew1) | exact HB.out)) hb); clear HB; have HB := n0_; clear n0_; (try clear hb); (try clear hb2); (try clear hk); (try clear hi)))
                                  go_meet
                                  case rel => exact ⟨_, (true), (by first | rfl | (simp; done) | (simp [*]; done)), H', ⟨by have := HJ7.out; first | omega | exact Nat.le_refl _⟩, ⟨by repeat (first | (with_reducible first | exact HB.out | apply below_alloc | apply pw_below_drewN | apply below_drew1) | exact HB.out)⟩⟩
                              · rw [if_neg c36] at H
                                have c36b0 : (t217 == (t227.size : Int)) = false := beq_eq_false_iff_ne.mpr c36
                                have c36b1 : (t217 != (t227.size : Int)) = true := bne_iff_ne.mpr c36
                                have H' := Aside0.mk H
                                clear H
                                go_wp2
                                go_meet
                                case rel => exact ⟨_, (true), (by first | rfl | (simp; done) | (simp [*]; done)), H', ⟨by have := HJ7.out; first | omega | exact Nat.le_refl _⟩, ⟨by repeat (first | (with_reducible first | exact HB.out | apply below_alloc | apply pw_below_drewN | apply below_drew1) | exact HB.out)⟩⟩
                            · rw [if_neg c35] at H
                              have c35b0 : (t224.toList == a2.toList) = false := beq_eq_false_iff_ne.mpr c35
                              have c35b1 : (t224.toList != a2.toList) = true := bne_iff_ne.mpr c35
                              have H' := Aside0.mk H
                              clear H
                              go_wp2
                              go_meet
                              case rel => exact ⟨_, (true), (by first | rfl | (simp; done) | (simp [*]; done)), H', ⟨by have := HJ7.out; first | omega | exact Nat.le_refl _⟩, ⟨by repeat (first | (with_reducible first | exact HB.out | apply below_alloc | apply pw_below_drewN | apply below_drew1) | exact HB.out)⟩⟩
                          · rw [if_neg c34] at H
                            have c34b0 : (t220 == a1) = false := beq_eq_false_iff_ne.mpr c34
                            have c34b1 : (t220 != a1) = true := bne_iff_ne.mpr c34
                            have H' := Aside0.mk H
                            clear H
                            go_wp2
                            go_meet
                            case rel => exact ⟨_, (true), (by first | rfl | (simp; done) | (simp [*]; done)), H', ⟨by have := HJ7.out; first | omega | exact Nat.le_refl _⟩, ⟨by repeat (first | (with_reducible first | exact HB.out | apply below_alloc | apply pw_below_drewN | apply below_drew1) | exact HB.out)⟩⟩
                        · rw [if_neg c33] at H
                          have c33b0 : (t216 == a0) = false := beq_eq_false_iff_ne.mpr c33
                          have c33b1 : (t216 != a0) = true := bne_iff_ne.mpr c33
                          have H' := Aside0.mk H
                          clear H
                          go_wp2
                          go_meet
                          case rel => exact ⟨_, (true), (by first | rfl | (simp; done) | (simp [*]; done)), H', ⟨by have := HJ7.out; first | omega | exact Nat.le_refl _⟩, ⟨by repeat (first | (with_reducible first | exact HB.out | apply below_alloc | apply pw_below_drewN | apply below_drew1) | exact HB.out)⟩⟩
                      · rw [if_neg c32] at H
                        have c32b0 : (t226 == 0) = false := beq_eq_false_iff_ne.mpr c32
                        have c32b1 : (t226 != 0) = true := bne_iff_ne.mpr c32
                        have H' := Aside0.mk H
                        clear H
                        go_wp2
                        go_meet
                        case rel => exact ⟨_, (true), (by first | rfl | (simp; done) | (simp [*]; done)), H', ⟨by have := HJ7.out; first | omega | exact Nat.le_refl _⟩, ⟨by repeat (first | (with_reducible first | exact HB.out | apply below_alloc | apply pw_below_drewN | apply below_drew1) | exact HB.out)⟩⟩
                    · rw [if_neg c31] at H
                      have c31b0 : (t222 == 0) = false := beq_eq_false_iff_ne.mpr c31
                      have c31b1 : (t222 != 0) = true := bne_iff_ne.mpr c31
                      have H' := Aside0.mk H
                      clear H
                      go_wp2
                      go_meet
                      case rel => exact ⟨_, (true), (by first | rfl | (simp; done) | (simp [*]; done)), H', ⟨by have := HJ7.out; first | omega | exact Nat.le_refl _⟩, ⟨by repeat (first | (with_reducible first | exact HB.out | apply below_alloc | apply pw_below_drewN | apply below_drew1) | exact HB.out)⟩⟩
                  · rw [if_neg c30] at H
                    have c30b0 : (t218 == 0) = false := beq_eq_false_iff_ne.mpr c30
                    have c30b1 : (t218 != 0) = true := bne_iff_ne.mpr c30
                    (first | rw [c30b0] | (simp only [i64_w, i32_w]; rw [c30b0]) | skip)
                    have H' := Aside0.mk H
                    clear H
                    go_wp2
                    go_meet
                    case rel => exact ⟨_, (true), (by first | rfl | (simp; done) | (simp [*]; done)), H', ⟨by have := HJ7.out; first | omega | exact Nat.le_refl _⟩, ⟨by repeat (first | (with_reducible first | exact HB.out | apply below_alloc | apply pw_below_drewN | apply below_drew1) | exact HB.out)⟩⟩
                case rest =>
                  clear HC22
                  try clear c1
                  try clear c2
                  try clear p2
                  try clear c3
                  try clear c4
                  try clear c7
                  try clear c8
                  try clear c9
                  try clear c10
                  try clear c10b0
                  try clear c10b1
                  try clear c11
                  try clear c12
                  try clear c13
                  try clear c13b0
                  try clear c13b1
                  try clear c13b2
                  try clear c15
                  try clear c16
                  try clear c16b0
                  try clear c16b1
                  try clear c16b2
                  try clear c19
                  try clear c19b0
                  try clear c19b1
                  try clear c19b2
                  try clear c23
                  try clear c30
                  try clear c30b0
                  try clear c30b1
                  try clear c31
                  try clear c31b0
                  try clear c31b1
                  try clear c32
                  try clear c32b0
                  try clear c32b1
                  try clear c33
                  try clear c33b0
                  try clear c33b1
                  try clear c34
                  try clear c34b0
                  try clear c34b1
                  try clear c35
                  try clear c35b0
                  try clear c35b1
                  try clear c36
                  try clear c36b0
                  try clear c36b1
                  try clear c38
                  try clear c38b0
                  try clear c38b1
                  try clear c40
                  try clear c40b0
                  try clear c40b1
                  try clear p2
                  obtain ⟨kq, x117_21, rfl, HA, HJ21, HB⟩ := hcut
                  cases kq with
                  | zero => exact absurd HA.out (by simp [vedettelaw1_NumBack.j1])
                  | succ kj21 =>
                    have H := HA.out
                    clear HA
                    simp only [vedettelaw1_NumBack.j1] at H
                    by_cases c46 : x117_21 = true
                    · subst c46
                      have H1 : (some false) = some true := by rw [if_pos rfl] at H; try exact H
                      clear H
                      have H := H1
                      clear H1
                      exact absurd H (by simp)
                    · replace c46 := Bool.eq_false_iff.mpr c46
                      subst c46
                      have H1 : (if (t227.size : Int) = 0 then (none) else (if 0 ≤ (Int.tmod (wrap64 (a4)) (t227.size : Int)) then (if (Int.tmod (wrap64 (a4)) (t227.size : Int)) ≤ (t227.size : Int) then ((num_Get.f (t227.extract 0 ((Int.tmod (wrap64 (a4)) (t227.size : Int)) : Int).toNat)).bind fun bt230 => ((num_Text.f kj21 a2).bind fun t233 => (if t233.size + a3.size ≤ 9223372036854775807 then ((num_Texts.f (t233 ++ a3) (wrap64 ((a2.size : Int) - 1))).bind fun bt234 => (if bt230.2.2 = 10 then (if bt234.2.2 = 13 then ((num_Zig.f a1).bind fun t237 => ((num_Zag.f t237).bind fun t238 => (if t238 = a1 then ((num_Zag.f a0).bind fun t239 => ((num_Zig.f t239).bind fun t240 => (some (t240 == a0)))) else (some false)))) else (if (a2.size : Int) = 0 then ((num_Zig.f a1).bind fun t241 => ((num_Zag.f t241).bind fun t242 => (if t242 = a1 then ((num_Zag.f a0).bind fun t243 => ((num_Zig.f t243).bind fun t244 => (some (t244 == a0)))) else (some false)))) else (some false))) else (some false))) else (none)))) else (none)) else (none))) = some true := by rw [if_neg (show ¬ (false = true) by decide)] at H; try exact H
                      clear H
                      have H := H1
                      clear H1
                      by_cases c47 : (t227.size : Int) = 0
                      · rw [if_pos c47] at H
                        exact absurd H (by simp)
                      · rw [if_neg c47] at H
                        have c47b0 : ((t227.size : Int) == 0) = false := beq_eq_false_iff_ne.mpr c47
                        have c47b1 : ((t227.size : Int) != 0) = true := bne_iff_ne.mpr c47
                        obtain ⟨ji48, hji48⟩ : ∃ j_ : Int, (Int.tmod (wrap64 (a4)) (t227.size : Int)) = j_ := ⟨_, rfl⟩
                        replace H : (if 0 ≤ (ji48) then (if (ji48) ≤ (t227.size : Int) then ((num_Get.f (t227.extract 0 ((ji48) : Int).toNat)).bind fun bt230 => ((num_Text.f kj21 a2).bind fun t233 => (if t233.size + a3.size ≤ 9223372036854775807 then ((num_Texts.f (t233 ++ a3) (wrap64 ((a2.size : Int) - 1))).bind fun bt234 => (if bt230.2.2 = 10 then (if bt234.2.2 = 13 then ((num_Zig.f a1).bind fun t237 => ((num_Zag.f t237).bind fun t238 => (if t238 = a1 then ((num_Zag.f a0).bind fun t239 => ((num_Zig.f t239).bind fun t240 => (some (t240 == a0)))) else (some false)))) else (if (a2.size : Int) = 0 then ((num_Zig.f a1).bind fun t241 => ((num_Zag.f t241).bind fun t242 => (if t242 = a1 then ((num_Zag.f a0).bind fun t243 => ((num_Zig.f t243).bind fun t244 => (some (t244 == a0)))) else (some false)))) else (some false))) else (some false))) else (none)))) else (none)) else (none)) = some true := by first | (rw [hji48] at H; exact H) | (simp only [hji48] at H ⊢; exact H)
                        by_cases c49 : 0 ≤ (ji48)
                        · rw [if_pos c49] at H
                          have c49b0 := eq_true c49
                          have c49b1 : decide (0 ≤ (ji48)) = true := decide_eq_true c49
                          clear c49
                          by_cases c50 : (ji48) ≤ (t227.size : Int)
                          · rw [if_pos c50] at H
                            have c50b0 := eq_true c50
                            have c50b1 : decide ((ji48) ≤ (t227.size : Int)) = true := decide_eq_true c50
                            clear c50
                            replace H := Option.bind_eq_some_iff.mp H
                            obtain ⟨⟨t230, t231, t232⟩, A510, H⟩ := H
                            replace H : ((num_Text.f kj21 a2).bind fun t233 => (if t233.size + a3.size ≤ 9223372036854775807 then ((num_Texts.f (t233 ++ a3) (wrap64 ((a2.size : Int) - 1))).bind fun bt234 => (if t232 = 10 then (if bt234.2.2 = 13 then ((num_Zig.f a1).bind fun t237 => ((num_Zag.f t237).bind fun t238 => (if t238 = a1 then ((num_Zag.f a0).bind fun t239 => ((num_Zig.f t239).bind fun t240 => (some (t240 == a0)))) else (some false)))) else (if (a2.size : Int) = 0 then ((num_Zig.f a1).bind fun t241 => ((num_Zag.f t241).bind fun t242 => (if t242 = a1 then ((num_Zag.f a0).bind fun t243 => ((num_Zig.f t243).bind fun t244 => (some (t244 == a0)))) else (some false)))) else (some false))) else (some false))) else (none))) = some true := H
                            have A51 := Aside0.mk A510
                            clear A510
                            replace H := Option.bind_eq_some_iff.mp H
                            obtain ⟨t233, A520, H⟩ := H
                            replace H : (if t233.size + a3.size ≤ 9223372036854775807 then ((num_Texts.f (t233 ++ a3) (wrap64 ((a2.size : Int) - 1))).bind fun bt234 => (if t232 = 10 then (if bt234.2.2 = 13 then ((num_Zig.f a1).bind fun t237 => ((num_Zag.f t237).bind fun t238 => (if t238 = a1 then ((num_Zag.f a0).bind fun t239 => ((num_Zig.f t239).bind fun t240 => (some (t240 == a0)))) else (some false)))) else (if (a2.size : Int) = 0 then ((num_Zig.f a1).bind fun t241 => ((num_Zag.f t241).bind fun t242 => (if t242 = a1 then ((num_Zag.f a0).bind fun t243 => ((num_Zig.f t243).bind fun t244 => (some (t244 == a0)))) else (some false)))) else (some false))) else (some false))) else (none)) = some true := H
                            have A52 := Aside0.mk A520
                            clear A520
                            by_cases c53 : t233.size + a3.size ≤ 9223372036854775807
                            · rw [if_pos c53] at H
                              have c53b0 := eq_true c53
                              have c53b1 : decide (t233.size + a3.size ≤ 9223372036854775807) = true := decide_eq_true c53
                              try have c53b2 : (9223372036854775807 < t233.size + a3.size) = False := eq_false (Nat.not_lt.2 c53)
                              clear c53
                              replace H := Option.bind_eq_some_iff.mp H
                              obtain ⟨⟨t234, t235, t236⟩, A540, H⟩ := H
                              replace H : (if t232 = 10 then (if t236 = 13 then ((num_Zig.f a1).bind fun t237 => ((num_Zag.f t237).bind fun t238 => (if t238 = a1 then ((num_Zag.f a0).bind fun t239 => ((num_Zig.f t239).bind fun t240 => (some (t240 == a0)))) else (some false)))) else (if (a2.size : Int) = 0 then ((num_Zig.f a1).bind fun t241 => ((num_Zag.f t241).bind fun t242 => (if t242 = a1 then ((num_Zag.f a0).bind fun t243 => ((num_Zig.f t243).bind fun t244 => (some (t244 == a0)))) else (some false)))) else (some false))) else (some false)) = some true := H
                              have A54 := Aside0.mk A540
                              clear A540
                              by_cases c55 : t232 = 10
                              · rw [if_pos c55] at H
                                have c55b0 : (t232 == 10) = true := beq_iff_eq.mpr c55
                                have c55b1 : (t232 != 10) = false := bne_eq_false_iff_eq.mpr c55
                                clear c55
                                by_cases c56 : t236 = 13
                                · rw [if_pos c56] at H
                                  have c56b0 : (t236 == 13) = true := beq_iff_eq.mpr c56
                                  have c56b1 : (t236 != 13) = false := bne_eq_false_iff_eq.mpr c56
                                  clear c56
                                  replace H := Option.bind_eq_some_iff.mp H
                                  obtain ⟨t237, A570, H⟩ := H
                                  replace H : ((num_Zag.f t237).bind fun t238 => (if t238 = a1 then ((num_Zag.f a0).bind fun t239 => ((num_Zig.f t239).bind fun t240 => (some (t240 == a0)))) else (some false))) = some true := H
                                  have A57 := Aside0.mk A570
                                  clear A570
                                  replace H := Option.bind_eq_some_iff.mp H
                                  obtain ⟨t238, A580, H⟩ := H
                                  replace H : (if t238 = a1 then ((num_Zag.f a0).bind fun t239 => ((num_Zig.f t239).bind fun t240 => (some (t240 == a0)))) else (some false)) = some true := H
                                  have A58 := Aside0.mk A580
                                  clear A580
                                  by_cases c59 : t238 = a1
                                  · rw [if_pos c59] at H
                                    have c59b0 : (t238 == a1) = true := beq_iff_eq.mpr c59
                                    have c59b1 : (t238 != a1) = false := bne_eq_false_iff_eq.mpr c59
                                    clear c59
                                    replace H := Option.bind_eq_some_iff.mp H
                                    obtain ⟨t239, A600, H⟩ := H
                                    replace H : ((num_Zig.f t239).bind fun t240 => (some (t240 == a0))) = some true := H
                                    have A60 := Aside0.mk A600
                                    clear A600
                                    replace H := Option.bind_eq_some_iff.mp H
                                    obtain ⟨t240, A610, H⟩ := H
                                    replace H : (some (t240 == a0)) = some true := H
                                    have A61 := Aside0.mk A610
                                    clear A610
                                    have HE := Aside0.mk (Option.some.inj H)
                                    clear H
                                    go_wp2_with (first | ((with_reducible refine gate_callee (f := 12) rfl ?_); refine goesL_ (some 126) rfl rfl Try.func12 (by kernel_rfl) rfl #[.string (t227.extract 0 ((ji48) : Int).toNat)] rfl (by (try simp only [List.map_toArray, List.map_cons, List.map_nil]); first | done | (simp only [hji48]; rfl) | rfl | (simp only [List.length_drop, List.length_take]; rfl)) ?_; (with_reducible refine (num_Get.calls (t227.extract 0 ((ji48) : Int).toNat) t230 t231 t232 _ A51.out).mono ?_); rintro e w62 ⟨rfl, hb⟩; refine ⟨_, rfl, ?_⟩; have n0_ := Aside0.mk (below_step (by repeat (first | (with_reducible first | exact HB.out | apply below_alloc | apply pw_below_drewN | apply below_drew1) | exact HB.out)) hb); clear HB; have HB := n0_; clear n0_; (try clear hb); (try clear hb2); (try clear hk); (try clear hi)) | ((with_reducible refine gate_callee (f := 11) rfl ?_); refine goesL_ (some 132) rfl rfl Try.func11 (by kernel_rfl) rfl #[.string a2] rfl (by (try simp only [List.map_toArray, List.map_cons, List.map_nil]); first | done | rfl | (simp only [List.length_drop, List.length_take]; rfl)) ?_; (with_reducible refine (num_Text.calls kj21 a2 t233 _ A52.out).mono ?_); rintro e w63 ⟨rfl, hb⟩; refine ⟨_, rfl, ?_⟩; have n0_ := Aside0.mk (below_step (by repeat (first | (with_reducible first | exact HB.out | apply below_alloc | apply pw_below_drewN | apply below_drew1) | exact HB.out)) hb); clear HB; have HB := n0_; clear n0_; (try clear hb); (try clear hb2); (try clear hk); (try clear hi)) | ((with_reducible refine gate_callee (f := 13) rfl ?_); refine goesL_ (some 138) rfl rfl Try.func13 (by kernel_rfl) rfl #[.string (t233 ++ a3), .int .i64 (wrap64 ((a2.size : Int) - 1))] rfl (by (try simp only [List.map_toArray, List.map_cons, List.map_nil]); first | done | rfl | (simp only [List.length_drop, List.length_take]; rfl)) ?_; (with_reducible refine (num_Texts.calls (t233 ++ a3) (wrap64 ((a2.size : Int) - 1)) t234 t235 t236 _ A54.out).mono ?_); rintro e w64 ⟨rfl, hb⟩; refine ⟨_, rfl, ?_⟩; have n0_ := Aside0.mk (below_step (by repeat (first | (with_reducible first | exact HB.out | apply below_alloc | apply pw_below_drewN | apply below_drew1) | exact HB.out)) hb); clear HB; have HB := n0_; clear n0_; (try clear hb); (try clear hb2); (try clear hk); (try clear hi)) | (go_at_call 19; (with_reducible refine (num_Zig.calls a1 t237 _ A57.out).mono ?_); rintro e w' ⟨rfl, ⟨nd, rfl⟩⟩) | (go_at_call 21; (with_reducible refine (num_Zag.calls t237 t238 _ A58.out).mono ?_); rintro e w' ⟨rfl, ⟨nd, rfl⟩⟩) | (go_at_call 21; (with_reducible refine (num_Zag.calls a0 t239 _ A60.out).mono ?_); rintro e w' ⟨rfl, ⟨nd, rfl⟩⟩) | (go_at_call 19; (with_reducible refine (num_Zig.calls t239 t240 _ A61.out).mono ?_); rintro e w' ⟨rfl, ⟨nd, rfl⟩⟩))
                                    go_ret
                                    exact ⟨by first | rfl | exact congrArg (fun b_ => Ending.returned (Value.bool b_)) HE.out | (have he_ := HE.out; simp at he_; simp [he_]; done) | (simp [errW_none, errW_some] <;> rfl) | (simp only [← hji48]; first | rfl | (simp [errW_none, errW_some] <;> rfl)) | (simp [*, errW_none, errW_some] <;> rfl), by repeat (first | (with_reducible first | exact HB.out | apply below_alloc | apply pw_below_drewN | apply below_drew1) | exact HB.out)⟩
                                  · rw [if_neg c59] at H
                                    have c59b0 : (t238 == a1) = false := beq_eq_false_iff_ne.mpr c59
                                    have c59b1 : (t238 != a1) = true := bne_iff_ne.mpr c59
                                    exact absurd H (by simp)
                                · rw [if_neg c56] at H
                                  have c56b0 : (t236 == 13) = false := beq_eq_false_iff_ne.mpr c56
                                  have c56b1 : (t236 != 13) = true := bne_iff_ne.mpr c56
                                  by_cases c65 : (a2.size : Int) = 0
                                  · rw [if_pos c65] at H
                                    have c65b0 : ((a2.size : Int) == 0) = true := beq_iff_eq.mpr c65
                                    have c65b1 : ((a2.size : Int) != 0) = false := bne_eq_false_iff_eq.mpr c65
                                    clear c65
                                    replace H := Option.bind_eq_some_iff.mp H
                                    obtain ⟨t241, A660, H⟩ := H
                                    replace H : ((num_Zag.f t241).bind fun t242 => (if t242 = a1 then ((num_Zag.f a0).bind fun t243 => ((num_Zig.f t243).bind fun t244 => (some (t244 == a0)))) else (some false))) = some true := H
                                    have A66 := Aside0.mk A660
                                    clear A660
                                    replace H := Option.bind_eq_some_iff.mp H
                                    obtain ⟨t242, A670, H⟩ := H
                                    replace H : (if t242 = a1 then ((num_Zag.f a0).bind fun t243 => ((num_Zig.f t243).bind fun t244 => (some (t244 == a0)))) else (some false)) = some true := H
                                    have A67 := Aside0.mk A670
                                    clear A670
                                    by_cases c68 : t242 = a1
                                    · rw [if_pos c68] at H
                                      have c68b0 : (t242 == a1) = true := beq_iff_eq.mpr c68
                                      have c68b1 : (t242 != a1) = false := bne_eq_false_iff_eq.mpr c68
                                      clear c68
                                      replace H := Option.bind_eq_some_iff.mp H
                                      obtain ⟨t243, A690, H⟩ := H
                                      replace H : ((num_Zig.f t243).bind fun t244 => (some (t244 == a0))) = some true := H
                                      have A69 := Aside0.mk A690
                                      clear A690
                                      replace H := Option.bind_eq_some_iff.mp H
                                      obtain ⟨t244, A700, H⟩ := H
                                      replace H : (some (t244 == a0)) = some true := H
                                      have A70 := Aside0.mk A700
                                      clear A700
                                      have HE := Aside0.mk (Option.some.inj H)
                                      clear H
                                      go_wp2_with (first | ((with_reducible refine gate_callee (f := 12) rfl ?_); refine goesL_ (some 126) rfl rfl Try.func12 (by kernel_rfl) rfl #[.string (t227.extract 0 ((ji48) : Int).toNat)] rfl (by (try simp only [List.map_toArray, List.map_cons, List.map_nil]); first | done | (simp only [hji48]; rfl) | rfl | (simp only [List.length_drop, List.length_take]; rfl)) ?_; (with_reducible refine (num_Get.calls (t227.extract 0 ((ji48) : Int).toNat) t230 t231 t232 _ A51.out).mono ?_); rintro e w71 ⟨rfl, hb⟩; refine ⟨_, rfl, ?_⟩; have n0_ := Aside0.mk (below_step (by repeat (first | (with_reducible first | exact HB.out | apply below_alloc | apply pw_below_drewN | apply below_drew1) | exact HB.out)) hb); clear HB; have HB := n0_; clear n0_; (try clear hb); (try clear hb2); (try clear hk); (try clear hi)) | ((with_reducible refine gate_callee (f := 11) rfl ?_); refine goesL_ (some 132) rfl rfl Try.func11 (by kernel_rfl) rfl #[.string a2] rfl (by (try simp only [List.map_toArray, List.map_cons, List.map_nil]); first | done | rfl | (simp only [List.length_drop, List.length_take]; rfl)) ?_; (with_reducible refine (num_Text.calls kj21 a2 t233 _ A52.out).mono ?_); rintro e w72 ⟨rfl, hb⟩; refine ⟨_, rfl, ?_⟩; have n0_ := Aside0.mk (below_step (by repeat (first | (with_reducible first | exact HB.out | apply below_alloc | apply pw_below_drewN | apply below_drew1) | exact HB.out)) hb); clear HB; have HB := n0_; clear n0_; (try clear hb); (try clear hb2); (try clear hk); (try clear hi)) | ((with_reducible refine gate_callee (f := 13) rfl ?_); refine goesL_ (some 138) rfl rfl Try.func13 (by kernel_rfl) rfl #[.string (t233 ++ a3), .int .i64 (wrap64 ((a2.size : Int) - 1))] rfl (by (try simp only [List.map_toArray, List.map_cons, List.map_nil]); first | done | rfl | (simp only [List.length_drop, List.length_take]; rfl)) ?_; (with_reducible refine (num_Texts.calls (t233 ++ a3) (wrap64 ((a2.size : Int) - 1)) t234 t235 t236 _ A54.out).mono ?_); rintro e w73 ⟨rfl, hb⟩; refine ⟨_, rfl, ?_⟩; have n0_ := Aside0.mk (below_step (by repeat (first | (with_reducible first | exact HB.out | apply below_alloc | apply pw_below_drewN | apply below_drew1) | exact HB.out)) hb); clear HB; have HB := n0_; clear n0_; (try clear hb); (try clear hb2); (try clear hk); (try clear hi)) | (go_at_call 19; (with_reducible refine (num_Zig.calls a1 t241 _ A66.out).mono ?_); rintro e w' ⟨rfl, ⟨nd, rfl⟩⟩) | (go_at_call 21; (with_reducible refine (num_Zag.calls t241 t242 _ A67.out).mono ?_); rintro e w' ⟨rfl, ⟨nd, rfl⟩⟩) | (go_at_call 21; (with_reducible refine (num_Zag.calls a0 t243 _ A69.out).mono ?_); rintro e w' ⟨rfl, ⟨nd, rfl⟩⟩) | (go_at_call 19; (with_reducible refine (num_Zig.calls t243 t244 _ A70.out).mono ?_); rintro e w' ⟨rfl, ⟨nd, rfl⟩⟩))
                                      go_ret
                                      exact ⟨by first | rfl | exact congrArg (fun b_ => Ending.returned (Value.bool b_)) HE.out | (have he_ := HE.out; simp at he_; simp [he_]; done) | (simp [errW_none, errW_some] <;> rfl) | (simp only [← hji48]; first | rfl | (simp [errW_none, errW_some] <;> rfl)) | (simp [*, errW_none, errW_some] <;> rfl), by repeat (first | (with_reducible first | exact HB.out | apply below_alloc | apply pw_below_drewN | apply below_drew1) | exact HB.out)⟩
                                    · rw [if_neg c68] at H
                                      have c68b0 : (t242 == a1) = false := beq_eq_false_iff_ne.mpr c68
                                      have c68b1 : (t242 != a1) = true := bne_iff_ne.mpr c68
                                      exact absurd H (by simp)
                                  · rw [if_neg c65] at H
                                    have c65b0 : ((a2.size : Int) == 0) = false := beq_eq_false_iff_ne.mpr c65
                                    have c65b1 : ((a2.size : Int) != 0) = true := bne_iff_ne.mpr c65
                                    exact absurd H (by simp)
                              · rw [if_neg c55] at H
                                have c55b0 : (t232 == 10) = false := beq_eq_false_iff_ne.mpr c55
                                have c55b1 : (t232 != 10) = true := bne_iff_ne.mpr c55
                                exact absurd H (by simp)
                            · rw [if_neg c53] at H
                              exact absurd H (by simp)
                          · rw [if_neg c50] at H
                            exact absurd H (by simp)
                        · rw [if_neg c49] at H
                          exact absurd H (by simp)
              · rw [if_neg c19] at H
                exact absurd H (by simp)
            · rw [if_neg c16] at H
              exact absurd H (by simp)
          · rw [if_neg c13] at H
            exact absurd H (by simp)
  · replace c7 := Bool.eq_false_iff.mpr c7
    subst c7
    have H1 : (some false) = some true := by rw [if_neg (show ¬ (false = true) by decide)] at H; try exact H
    clear H
    have H := H1
    clear H1
    exact absurd H (by simp)

/-- THE ONE PURE STATEMENT of vedettelaw1_NumBack: yours. -/
def vedettelaw1_NumBack.Pure : Prop := ∀ (a0 : Int) (a1 : Int) (a2 : ByteArray) (a3 : ByteArray) (a4 : Int), (Lit.int .u64 a0).wf = true → (Lit.int .i64 a1).wf = true → a2.size ≤ 140737488351232 → a3.size ≤ 140737488351232 → (Lit.int .u8 a4).wf = true → ∃ k, vedettelaw1_NumBack.f k a0 a1 a2 a3 a4 = some true
theorem vedettelaw1_NumBack.walk (P : vedettelaw1_NumBack.Pure) (a0 : Int) (a1 : Int) (a2 : ByteArray) (a3 : ByteArray) (a4 : Int) (w : World) (w0 : (Lit.int .u64 a0).wf = true) (w1 : (Lit.int .i64 a1).wf = true) (w2 : a2.size ≤ 140737488351232) (w3 : a3.size ≤ 140737488351232) (w4 : (Lit.int .u8 a4).wf = true) :
    Calls Try.prog 8 #[.int .u64 a0, .int .i64 a1, .string a2, .string a3, .int .u8 a4] w fun e w' => e = .returned (.bool true) ∧ Below w.heap.size w w' := by
  obtain ⟨k, h⟩ := P a0 a1 a2 a3 a4 w0 w1 w2 w3 w4
  refine (vedettelaw1_NumBack.calls k a0 a1 a2 a3 a4 w h).mono ?_
  rintro e w' ⟨rfl, hd⟩
  exact ⟨rfl, hd⟩

end Go.Proofs.Ytgedcomfbkgkoaa.Print
