/- NumOrder: numbers have the same bytes just where they are the same; no number's bytes begin another's. For every input. -/
import Derived.Test.YtgedcomfbkgkoaaPrint2
import Derived.Test.YtgedcomfbkgkoaaNumB
import Derived.Test.YtgedcomfbkgkoaaNumE
namespace Go.Proofs.Ytgedcomfbkgkoaa.Pure
open Go.RowKit Go.Proofs.Ytgedcomfbkgkoaa.Print Go.Proofs.YtgedcomfbkgkoaaW.PrintWords Go.Proofs.YtgedcomfbkgkoaaW.PrintLast Go.Proofs.YtgedcomfbkgkoaaW.PrintMore Go.Proofs.Ytgedcomfbkgkoaa.Num

theorem enc_beq {a b : Int} (ha : 0 ≤ a ∧ a < 18446744073709551616) (hb : 0 ≤ b ∧ b < 18446744073709551616) : (enc a.toNat == enc b.toNat) = (a == b) := by
  rw [Bool.eq_iff_iff, beq_iff_eq, beq_iff_eq]
  constructor
  · intro h
    have := enc_inj (a := a.toNat) (b := b.toNat) (t := []) (by omega) (by omega) (by rw [List.append_nil]; exact h)
    omega
  · rintro rfl; rfl
theorem enc_take_beq {a b : Int} (ha : 0 ≤ a ∧ a < 18446744073709551616) (hb : 0 ≤ b ∧ b < 18446744073709551616) : (enc a.toNat == (enc b.toNat).take (enc a.toNat).length) = (a == b) := by
  rw [Bool.eq_iff_iff, beq_iff_eq, beq_iff_eq]
  constructor
  · intro h
    have := enc_inj (a := a.toNat) (b := b.toNat) (t := (enc b.toNat).drop (enc a.toNat).length) (by omega) (by omega) (by
      have h2 := List.take_append_drop (enc a.toNat).length (enc b.toNat)
      rw [← h] at h2
      exact h2)
    omega
  · rintro rfl; rw [List.take_length]

theorem NumOrder : vedettelaw1_NumOrder.Pure := by
  intro a b ha hb
  have ha := wf_u64 ha
  have hb := wf_u64 hb
  refine ⟨100, ?_⟩
  unfold vedettelaw1_NumOrder.f
  have pa := put_f 100 a.toNat (by omega) (by omega)
  have pb := put_f 100 b.toNat (by omega) (by omega)
  have la := enc_length10 (n := a.toNat) (by omega)
  have lb := enc_length10 (n := b.toNat) (by omega)
  have ma := enc_pos a.toNat
  have mb := enc_pos b.toNat
  rw [show ((a.toNat : Nat) : Int) = a by omega] at pa
  rw [show ((b.toNat : Nat) : Int) = b by omega] at pb
  rw [known_f 100 (by omega), pa, pb]
  simp only [Option.bind_some, if_true, toList_eq, bstr_list, bstr_size, Lib.extract_data, List.drop_zero, Nat.sub_zero, Int.toNat_natCast]
  have hab : (b == a) = (a == b) := by rw [Bool.eq_iff_iff, beq_iff_eq, beq_iff_eq]; exact eq_comm
  by_cases h : ((enc a.toNat).length : Int) > ((enc b.toNat).length : Int)
  · rw [if_pos h, enc_beq hb ha, hab, if_pos (by simp), if_pos (by omega), if_pos (by omega), enc_take_beq hb ha, hab, if_pos (by simp), if_pos (by omega)]
    simp; omega
  · rw [if_neg h, enc_beq ha hb, if_pos (by simp), if_pos (by omega), if_pos (by omega), enc_take_beq ha hb, if_pos (by simp), if_pos (by omega)]
    simp; omega
end Go.Proofs.Ytgedcomfbkgkoaa.Pure
