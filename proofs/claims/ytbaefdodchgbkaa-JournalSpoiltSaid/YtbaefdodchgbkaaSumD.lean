/- A frame with a byte that is another one, and a frame that is cut off, are told. -/
import Derived.Test.YtbaefdodchgbkaaSumB
namespace Go.Proofs.Ytbaefdodchgbkaa.Num
open Go.RowKit Go.Proofs.YtbaefdodchgbkaaW.PrintWords Go.Proofs.YtbaefdodchgbkaaW.PrintMore Go.Proofs.Ytbaefdodchgbkaa.Print

theorem strOfNums_set (s : ByteArray) (q : Nat) (v : Int) : strOfNums ((bytesOf s).set q v) = bstr (s.data.toList.set q (UInt8.ofNat v.toNat)) := by
  refine ba_ext ?_
  rw [strOfNums_data, bstr_list, List.map_set]
  congr 1
  simp only [bytesOf, List.map_map]
  have : ((fun n : Int => UInt8.ofNat n.toNat) ∘ fun b : UInt8 => (b.toNat : Int)) = id := by
    funext b
    simp
  rw [this, List.map_id]

theorem crc_set (l : List UInt8) (i : Nat) (hi : i < l.length) (v : UInt8) (hv : v ≠ l[i]) : crc (l.set i v) ≠ crc l := by
  intro h
  have h1 : ngo ((l.set i v).map UInt8.toNat) 4294967295 = ngo (l.map UInt8.toNat) 4294967295 := by
    have h2 : crc (l.set i v) ^^^ 4294967295 = crc l ^^^ 4294967295 := by rw [h]
    unfold crc at h2
    rwa [Nat.xor_assoc, Nat.xor_self, Nat.xor_zero, Nat.xor_assoc, Nat.xor_self, Nat.xor_zero] at h2
  have e : l = l.take i ++ l[i] :: l.drop (i + 1) := by rw [List.getElem_cons_drop, List.take_append_drop]
  have e2 : l.set i v = l.take i ++ v :: l.drop (i + 1) := List.set_eq_take_append_cons_drop.trans (if_pos hi)
  rw [e2] at h1
  have h3 : ngo ((l.take i ++ v :: l.drop (i + 1)).map UInt8.toNat) 4294967295 = ngo ((l.take i ++ l[i] :: l.drop (i + 1)).map UInt8.toNat) 4294967295 := by rw [h1, ← e]
  simp only [List.map_append, List.map_cons] at h3
  exact ngo_one (nats_lt _) (nats_lt _) v.toNat_lt l[i].toNat_lt (by omega) (fun hh => hv (UInt8.toNat_inj.1 hh)) h3

/-- One byte of what a frame holds, or of its sum, is another one. -/
theorem opn_set (l tail : List UInt8) (hl : l.length ≤ 40000) (q : Nat) (hq : (enc l.length).length ≤ q) (hq2 : q < (frame l).length) (v : UInt8) (hv : v ≠ (frame l)[q]) :
    opn (bstr ((frame l).set q v ++ tail)) = (⟨#[]⟩, 0, 12) := by
  have hfl := frame_length l
  have key : ∀ l' c' : List UInt8, l'.length = l.length → c'.length = 4 → (frame l).set q v = enc l.length ++ l' ++ c' → c' ≠ tl (crc l') → opn (bstr ((frame l).set q v ++ tail)) = (⟨#[]⟩, 0, 12) := by
    intro l' c' h1 h2 h3 h4
    have := opn_parts l' c' tail (by omega) h2
    rw [h1, if_neg h4, ← h3] at this
    exact this
  by_cases hin : q < (enc l.length).length + l.length
  · refine key (l.set (q - (enc l.length).length) v) (tl (crc l)) (by rw [List.length_set]) (tl_length _) ?_ ?_
    · unfold frame
      rw [List.set_append_left _ _ (by rw [List.length_append]; omega), List.set_append_right _ _ hq]
    · intro h
      have hc := tl_inj (crc_lt l) (crc_lt _) h
      refine crc_set l (q - (enc l.length).length) (by omega) v ?_ hc.symm
      intro hh
      apply hv
      rw [hh, List.getElem_of_eq (show frame l = enc l.length ++ l ++ tl (crc l) from rfl) hq2]
      rw [List.getElem_append_left (by rw [List.length_append]; omega), List.getElem_append_right hq]
  · refine key l ((tl (crc l)).set (q - (enc l.length ++ l).length) v) rfl (by rw [List.length_set]; rfl) ?_ ?_
    · unfold frame
      rw [List.set_append_right _ _ (by rw [List.length_append]; omega)]
    · intro h
      have hj : q - (enc l.length ++ l).length < (tl (crc l)).length := by rw [tl_length, List.length_append]; omega
      have h5 : ((tl (crc l)).set (q - (enc l.length ++ l).length) v)[q - (enc l.length ++ l).length]'(by rw [List.length_set]; exact hj) = (tl (crc l))[q - (enc l.length ++ l).length] := by simp only [h]
      rw [List.getElem_set_self] at h5
      apply hv
      rw [h5, List.getElem_of_eq (show frame l = enc l.length ++ l ++ tl (crc l) from rfl) hq2]
      rw [List.getElem_append_right (by rw [List.length_append]; omega)]

/-- A beginning of a frame is none: it is too short. -/
theorem opn_cut (l : List UInt8) (hl : l.length ≤ 40000) (p : Nat) (hp : p < (frame l).length) : (opn (bstr ((frame l).take p))).2.2 = 10 := by
  have hfl := frame_length l
  have h10 := enc_length10 (n := l.length) (by omega)
  have hps := enc_pos l.length
  have hm : mx 40000 0 = 40000 := by decide
  have htl : ((frame l).take p).length = p := by rw [List.length_take]; omega
  by_cases h1 : p < (enc l.length).length
  · have e : (frame l).take p = (enc l.length).take p := by
      unfold frame
      rw [List.append_assoc, List.take_append_of_le_length (by omega)]
    have hd : dec ((frame l).take p) 0 0 = (0, 0, 10) := by
      rw [e]
      exact dec_cut l.length l.length 0 0 p (Nat.le_refl _) (.inl rfl) (by simp; omega) (by simp) h1
    unfold opn texts
    rw [bstr_list, hd]
    rfl
  · have e : (frame l).take p = enc l.length ++ ((l ++ tl (crc l)).take (p - (enc l.length).length)) := by
      unfold frame
      rw [List.append_assoc, List.take_append, List.take_of_length_le (by omega)]
    have hd : dec ((frame l).take p) 0 0 = ((l.length : Int), ((enc l.length).length : Int), 0) := by
      rw [e]
      exact dec_enc0 l.length _ (by omega)
    by_cases h2 : (l.length : Int) > (p : Int) - ((enc l.length).length : Int)
    · have ht : texts (bstr ((frame l).take p)) 40000 = (⟨#[]⟩, 0, 10) := by
        unfold texts
        rw [bstr_list, hd]
        dsimp only
        rw [if_pos rfl, if_neg (show ¬ (l.length : Int) > mx 40000 0 by omega), bstr_size, htl, if_pos h2]
      unfold opn
      rw [ht]
      rfl
    · obtain ⟨x, hx⟩ : ∃ x, texts (bstr ((frame l).take p)) 40000 = (x, ((enc l.length).length : Int) + l.length, 0) := by
        unfold texts
        rw [bstr_list, hd]
        dsimp only
        rw [if_pos rfl, if_neg (show ¬ (l.length : Int) > mx 40000 0 by omega), bstr_size, htl, if_neg h2]
        exact ⟨_, rfl⟩
      unfold opn
      rw [hx]
      dsimp only
      rw [if_pos rfl, bstr_size, htl, if_pos (by omega)]
end Go.Proofs.Ytbaefdodchgbkaa.Num
