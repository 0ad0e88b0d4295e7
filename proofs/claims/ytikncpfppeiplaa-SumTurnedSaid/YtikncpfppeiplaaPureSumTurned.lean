/- SumTurned: one bit that is turned in what a frame holds, or in its sum, is seen; cut off it isn't a frame. For every input. -/
import Derived.Test.YtikncpfppeiplaaWalkSumTurned
import Derived.Test.YtikncpfppeiplaaSumD
import Derived.Test.YtikncpfppeiplaaSumK
import Derived.Test.YtikncpfppeiplaaNumE
namespace Go.Proofs.Ytikncpfppeiplaa.Pure
open Go.RowKit Go.Proofs.Ytikncpfppeiplaa.Print Go.Proofs.YtikncpfppeiplaaW.PrintWords Go.Proofs.YtikncpfppeiplaaW.PrintLast Go.Proofs.Ytikncpfppeiplaa.Num

theorem turned_ne (c : Nat) (hc : c < 256) (b : Int) : ∃ v : Nat, Go.bits .xor .u8 (c : Int) (2 ^ (b % 8).toNat % 256) = (v : Int) ∧ v < 256 ∧ v ≠ c := by
  have hj : (b % 8).toNat < 8 := by omega
  generalize (b % 8).toNat = j at hj
  have hp : (2 : Nat) ^ j < 256 := by
    have : (2 : Nat) ^ j ≤ 2 ^ 7 := Nat.pow_le_pow_right (by omega) (by omega)
    omega
  have hp0 : 0 < (2 : Nat) ^ j := Nat.pow_pos (by omega)
  have e : ((2 : Int) ^ j % 256) = ((2 ^ j : Nat) : Int) := by
    have : (2 : Int) ^ j = ((2 ^ j : Nat) : Int) := by push_cast; rfl
    rw [this]
    omega
  rw [e, u8_xor_nat c (2 ^ j) hc hp]
  refine ⟨c ^^^ 2 ^ j, rfl, Nat.xor_lt_two_pow (n := 8) hc hp, fun h => ?_⟩
  have h2 : c ^^^ (c ^^^ 2 ^ j) = c ^^^ c := by rw [h]
  rw [← Nat.xor_assoc, Nat.xor_self, Nat.zero_xor] at h2
  omega

theorem SumTurned : vedettelaw2_SumTurned.Pure := by
  refine ⟨⟨12, sum_known_f 12 (by omega)⟩, ?_⟩
  intro b tail at_ bit cut hb ht ha _ hcut
  have ha := wf_u16 ha
  have hcut := wf_u8 hcut
  have hbs := ba_size b
  have hts := ba_size tail
  have he : enc b.data.toList.length = [UInt8.ofNat b.data.toList.length] := enc_small (by omega)
  have he1 : (enc b.data.toList.length).length = 1 := by rw [he]; rfl
  have hfl := frame_length b.data.toList
  have hz : (bstr (frame b.data.toList)).size = b.size + 5 := by rw [bstr_size, hfl, he1]; omega
  obtain ⟨q, hq, hq1, hq2⟩ : ∃ q : Nat, wrap64 (1 + (wrap64 at_).tmod (((bstr (frame b.data.toList)).size : Int) - 1)) = (q : Int) ∧ 1 ≤ q ∧ q < b.size + 5 := by
    rw [hz, wrap64_of (x := at_) (by omega) (by omega), Int.tmod_eq_emod_of_nonneg ha.1]
    have h1 : 0 ≤ at_ % (((b.size + 5 : Nat) : Int) - 1) := Int.emod_nonneg _ (by omega)
    have h2 : at_ % (((b.size + 5 : Nat) : Int) - 1) < ((b.size + 5 : Nat) : Int) - 1 := Int.emod_lt_of_pos _ (by omega)
    generalize at_ % (((b.size + 5 : Nat) : Int) - 1) = r at h1 h2
    refine ⟨(1 + r).toNat, ?_, by omega, by omega⟩
    rw [wrap64_of (by omega) (by omega)]
    omega
  have hqf : q < (frame b.data.toList).length := by omega
  have hc := bt_get (bstr (frame b.data.toList)) q (by rw [hz]; exact hq2)
  have hbl : (bstr (frame b.data.toList)).data.toList[q]'(by rw [bstr_list]; exact hqf) = (frame b.data.toList)[q] := rfl
  rw [hbl] at hc
  obtain ⟨v, hv, hv1, hv2⟩ := turned_ne ((frame b.data.toList)[q]).toNat ((frame b.data.toList)[q]).toNat_lt bit
  obtain ⟨p, hp, hp2⟩ : ∃ p : Nat, cut % ((bstr (frame b.data.toList)).size : Int) = (p : Int) ∧ p < b.size + 5 := by
    rw [hz]
    have h1 : 0 ≤ cut % ((b.size + 5 : Nat) : Int) := Int.emod_nonneg _ (by omega)
    have h2 : cut % ((b.size + 5 : Nat) : Int) < ((b.size + 5 : Nat) : Int) := Int.emod_lt_of_pos _ (by omega)
    exact ⟨(cut % ((b.size + 5 : Nat) : Int)).toNat, by omega, by omega⟩
  have happ : ∀ l : List UInt8, bstr l ++ tail = bstr (l ++ tail.data.toList) := fun l => ba_ext (by rw [ba_append]; rfl)
  have hset : strOfNums ((bytesOf (bstr (frame b.data.toList))).set q (Go.bits .xor .u8 (bt (bstr (frame b.data.toList)) q) (2 ^ (bit % 8).toNat % 256))) = bstr ((frame b.data.toList).set q (UInt8.ofNat v)) := by
    rw [hc, hv, strOfNums_set, bstr_list, Int.toNat_natCast]
  have hv3 : UInt8.ofNat v ≠ (frame b.data.toList)[q] := fun h => hv2 (by rw [← h, ofNat_toNat hv1])
  have hex : (bstr (frame b.data.toList)).extract 0 p = bstr ((frame b.data.toList).take p) := ba_ext (by rw [Lib.extract_data, bstr_list, bstr_list]; simp)
  have hcutd := opn_cut b.data.toList (by omega) p (by omega)
  refine ⟨12, bstr (frame b.data.toList), _, (opn (bstr ((frame b.data.toList).take p))).1, (opn (bstr ((frame b.data.toList).take p))).2.1, q, p, wrap_f 12 b (by omega) (by omega), hz, ?_, hq, by rw [hz]; exact hq2, hset, hp, by rw [hz]; omega, ?_, ?_⟩
  · rw [happ, open_f _ (by rw [bstr_size, List.length_append]; omega), opn_frame _ _ (by omega), bstr_size]
    exact congrArg some (Prod.ext (ba_ext rfl) rfl)
  · rw [happ, open_f _ (by rw [bstr_size, List.length_append, List.length_set]; omega), opn_set b.data.toList tail.data.toList (by omega) q (by omega) hqf _ hv3]
  · rw [hex, open_f _ (by rw [bstr_size, List.length_take]; omega), ← hcutd]
end Go.Proofs.Ytikncpfppeiplaa.Pure
