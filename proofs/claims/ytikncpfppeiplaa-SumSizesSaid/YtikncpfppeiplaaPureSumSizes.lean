/- SumSizes: a frame holds as many bytes as it may hold, not one more. For every input. -/
import Derived.Test.YtikncpfppeiplaaPrint5
import Derived.Test.YtikncpfppeiplaaSumK
import Derived.Test.YtikncpfppeiplaaNumE
namespace Go.Proofs.Ytikncpfppeiplaa.Pure
open Go.RowKit Go.Proofs.Ytikncpfppeiplaa.Print Go.Proofs.YtikncpfppeiplaaW.PrintWords Go.Proofs.YtikncpfppeiplaaW.PrintLast Go.Proofs.YtikncpfppeiplaaW.PrintMore Go.Proofs.Ytikncpfppeiplaa.Num

theorem opn_large (l tail : List UInt8) (hl : l.length ≤ 140737488355328) (h : 40000 < l.length) : opn (bstr (frame l ++ tail)) = (⟨#[]⟩, 0, 13) := by
  have hm : mx 40000 0 = 40000 := by decide
  have hd : dec (bstr (frame l ++ tail)).data.toList 0 0 = ((l.length : Int), ((enc l.length).length : Int), 0) := by
    rw [bstr_list, frame, List.append_assoc, List.append_assoc]
    exact dec_enc0 l.length (l ++ (tl (crc l) ++ tail)) (by omega)
  have ht : texts (bstr (frame l ++ tail)) 40000 = (⟨#[]⟩, 0, 13) := by
    unfold texts
    rw [hd]
    dsimp only
    rw [if_pos rfl, if_pos (by omega)]
  unfold opn
  rw [ht]
  dsimp only
  rw [if_neg (by decide)]

theorem sizes_end (k n : Nat) (hk : 10 ≤ k) (hn : n ≤ 40001) (y : List Int) (hy : y.length = n) :
    ((sum_Wrap.f k (strOfNums y)).bind fun t => ((sum_Open.f t).bind fun o => (if (n : Int) > 40000 then (if o.2.2 = 13 then (if o.1.toList = ([] : List UInt8) then (some (o.2.1 == 0)) else (some false)) else (some false)) else (if o.2.2 = 0 then (some (o.1.toList == (strOfNums y).toList)) else (some false))))) = some true := by
  have hz : (strOfNums y).size = n := by rw [strOfNums_size, hy]
  have hl := ba_size (strOfNums y)
  have e10 := enc_length10 (n := (strOfNums y).data.toList.length) (by omega)
  rw [wrap_f k _ hk (by omega)]
  simp only [Option.bind_some]
  rw [open_f _ (by rw [bstr_size, frame_length]; omega)]
  simp only [Option.bind_some]
  by_cases h : n > 40000
  · have := opn_large (strOfNums y).data.toList [] (by omega) (by omega)
    rw [List.append_nil] at this
    rw [this, if_pos (by omega)]
    dsimp only
    rw [if_pos rfl, toList_eq, if_pos rfl]
    rfl
  · have := opn_frame (strOfNums y).data.toList [] (by omega)
    rw [List.append_nil] at this
    rw [this, if_neg (by omega)]
    dsimp only
    rw [if_pos rfl, toList_eq, toList_eq, bstr_list]
    simp

theorem SumSizes : vedettelaw2_SumSizes.Pure := by
  intro a c ha hc
  have ha := wf_u8 ha
  refine ⟨100, ?_⟩
  unfold vedettelaw2_SumSizes.f
  rw [sum_known_f 100 (by omega)]
  simp only [Option.bind_some, if_true]
  obtain ⟨n, hn, h0, h1⟩ : ∃ n : Nat, wrap64 (39999 + wrap64 (Int.tmod a 3)) = (n : Int) ∧ 39999 ≤ n ∧ n ≤ 40001 := by
    refine ⟨39999 + a.toNat % 3, ?_, by omega, by omega⟩
    have e : Int.tmod a 3 = a % 3 := Int.tmod_eq_emod_of_nonneg ha.1
    rw [e, wrap64_of (x := a % 3) (by omega) (by omega), wrap64_of (by omega) (by omega)]
    omega
  have hw : wrap64 ((n : Int) - 1) = (n : Int) - 1 := wrap64_of (by omega) (by omega)
  rw [hn, hw, if_pos (by omega), if_pos (by omega), if_pos (by omega), if_pos (by rw [List.length_replicate]; omega)]
  exact sizes_end 100 n (by omega) h1 _ (by rw [List.length_set, List.length_replicate]; omega)
end Go.Proofs.Ytikncpfppeiplaa.Pure
