/- What the document's sums and frames compute, told by plain lists; a number that is read begins with its own bytes. -/
import Derived.Test.YtbaefdodchgbkaaNumC
import Derived.Test.YtbaefdodchgbkaaSumB
import Derived.Test.YtbaefdodchgbkaaPrint1
import Derived.Test.YtbaefdodchgbkaaPrint3
namespace Go.Proofs.Ytbaefdodchgbkaa.Num
open Go.RowKit Go.Proofs.YtbaefdodchgbkaaW.PrintWords Go.Proofs.YtbaefdodchgbkaaW.PrintMore Go.Proofs.Ytbaefdodchgbkaa.Print

/-- What was read as a number begins with that number's bytes. -/
theorem dec_canon : ∀ (l : List UInt8) (i out : Nat) (u n : Int), i ≤ 9 → out < 2 ^ (7 * i) → dec l i out = (u, n, 0) →
    ∃ v : Nat, u = ((out + v * 2 ^ (7 * i) : Nat) : Int) ∧ l.take (n.toNat - i) = enc v ∧ (i = 0 ∨ 0 < v)
  | [], i, out, u, n, _, _, h => by simp [dec] at h
  | c :: t, i, out, u, n, hi, ho, h => by
    have hcl := c.toNat_lt
    simp only [dec] at h
    by_cases h1 : (i = 9 ∧ c.toNat > 1) ∨ (i > 0 ∧ c.toNat = 0)
    · rw [if_pos h1] at h
      simp at h
    · rw [if_neg h1] at h
      by_cases h2 : c.toNat < 128
      · rw [if_pos h2] at h
        simp only [Prod.mk.injEq] at h
        obtain ⟨rfl, rfl, _⟩ := h
        refine ⟨c.toNat, rfl, ?_, by omega⟩
        rw [enc_small h2, show (((i : Int) + 1).toNat - i) = 1 by omega]
        simp
      · rw [if_neg h2] at h
        have hf := fits (c := c.toNat % 128) hi (by omega) (by omega) ho
        have hi8 : i + 1 ≤ 9 := by
          by_cases e9 : i = 9
          · omega
          · omega
        obtain ⟨v, hv, ht, h0⟩ := dec_canon t (i + 1) _ u n hi8 hf.2 h
        have hv0 : 0 < v := by omega
        have hr := dec_range t (i + 1) _ hi8 hf.2 u n 0 h
        have hn : (i : Int) + 1 + 1 ≤ n := by
          rcases hr with ⟨_, _, _, h3, _⟩ | ⟨_, _, h3⟩
          · push_cast at h3; omega
          · omega
        refine ⟨c.toNat % 128 + 128 * v, ?_, ?_, .inr (by omega)⟩
        · rw [hv]
          have e : 2 ^ (7 * (i + 1)) = 128 * 2 ^ (7 * i) := by rw [Nat.mul_add, Nat.pow_add, Nat.mul_comm]
          rw [e, Nat.add_mul, ← Nat.mul_assoc v, Nat.mul_comm v 128, Nat.add_assoc]
        · have e1 : n.toNat - i = (n.toNat - (i + 1)) + 1 := by omega
          have e2 : (c.toNat % 128 + 128 * v) % 128 + 128 = c.toNat := by omega
          have e3 : (c.toNat % 128 + 128 * v) / 128 = v := by omega
          rw [e1, List.take_succ_cons, enc_big (n := c.toNat % 128 + 128 * v) (by omega), e2, e3, ht]
          simp

theorem ref_of_l1 (s : ByteArray) (r : Int) : ∀ (d k j x : Nat) (i : Int), j + d = 8 → x < 4294967296 → (∀ k', k ≤ k' + d + 1 → vedetteref1_Of.l0 k' s (nbits d x : Nat) (wrap64 (i + 1)) = some r) → d < k →
    vedetteref1_Of.l1 k s (x : Int) i (j : Int) = some r := by
  intro d
  induction d with
  | zero =>
    intro k j x i hj hx h hk
    obtain ⟨k, rfl⟩ : ∃ m, k = m + 1 := ⟨k - 1, by omega⟩
    rw [vedetteref1_Of.l1, if_neg (by omega)]
    exact h k (by omega)
  | succ d ih =>
    intro k j x i hj hx h hk
    obtain ⟨k, rfl⟩ : ∃ m, k = m + 1 := ⟨k - 1, by omega⟩
    have hb := bit_nat x hx
    unfold sum_Of.bit at hb
    have hw : wrap64 ((j : Int) + 1) = ((j + 1 : Nat) : Int) := by rw [wrap64_of (by omega) (by omega)]; rfl
    have hcomm : ∀ (n y : Nat), nbits n (nbit y) = nbit (nbits n y) := by
      intro n
      induction n with
      | zero => intro y; rfl
      | succ n ihn => intro y; simp only [nbits]; rw [ihn]
    have hnext := ih k (j + 1) (nbit x) i (by omega) (nbit_lt hx) (fun k' hk' => by
      have := h k' (by omega)
      simp only [nbits] at this
      rw [hcomm]
      exact this) (by omega)
    rw [vedetteref1_Of.l1, if_pos (by omega), hw]
    by_cases hc : Go.bits .and .u32 (x : Int) 1 = 1
    · rw [if_pos hc] at hb ⊢
      rw [hb]; exact hnext
    · rw [if_neg hc] at hb ⊢
      rw [hb]; exact hnext

theorem ref_of_l0 (s : ByteArray) (hs : s.size ≤ 140737488355328) : ∀ (d k i x : Nat), i + d = s.size → x < 4294967296 → 10 * d + 1 ≤ k →
    vedetteref1_Of.l0 k s (x : Int) (i : Int) = some ((ngo ((s.data.toList.drop i).map UInt8.toNat) x ^^^ 4294967295 : Nat) : Int) := by
  intro d
  induction d with
  | zero =>
    intro k i x hi hx hk
    obtain ⟨k, rfl⟩ : ∃ m, k = m + 1 := ⟨k - 1, by omega⟩
    rw [vedetteref1_Of.l0, if_neg (by omega), List.drop_eq_nil_of_le (by rw [ba_size]; omega)]
    exact congrArg some (u32_xor_nat x 4294967295 hx (by decide))
  | succ d ih =>
    intro k i x hi hx hk
    obtain ⟨k, rfl⟩ : ∃ m, k = m + 1 := ⟨k - 1, by omega⟩
    have h : i < s.size := by omega
    have hl : i < s.data.toList.length := by rw [ba_size]; exact h
    have hlt := (s.data.toList[i]).toNat_lt
    rw [vedetteref1_Of.l0, if_pos (by omega), if_pos (by omega), bt_get s i h, List.drop_eq_getElem_cons hl]
    generalize s.data.toList[i] = c at *
    have hm : (c.toNat : Int) % 4294967296 = (c.toNat : Int) := by omega
    have hw : wrap64 ((i : Int) + 1) = ((i + 1 : Nat) : Int) := by rw [wrap64_of (by omega) (by omega)]; rfl
    rw [hm, u32_xor_nat x c.toNat hx (by omega)]
    refine ref_of_l1 s _ 8 k 0 (x ^^^ c.toNat) i (by omega) (xor_lt hx (by omega)) (fun k' hk' => ?_) (by omega)
    rw [hw]
    exact ih k' (i + 1) (nbits 8 (x ^^^ c.toNat)) (by omega) (nbits_lt 8 (xor_lt hx (by omega))) (by omega)

theorem ref_of_f (k : Nat) (s : ByteArray) (hs : s.size ≤ 140737488355328) (hk : 10 * s.size + 1 ≤ k) : vedetteref1_Of.f k s = some ((crc s.data.toList : Nat) : Int) := by
  unfold vedetteref1_Of.f
  exact ref_of_l0 s hs s.size k 0 4294967295 (by omega) (by omega) (by omega)

theorem ref_wrap_f (k : Nat) (s : ByteArray) (hk : 10 * s.size + 10 ≤ k) (hs : s.size ≤ 140737488355328) : vedetteref1_Wrap.f k s = some (bstr (frame s.data.toList)) := by
  unfold vedetteref1_Wrap.f
  have hl := enc_length10 (n := s.size) (by omega)
  have hz := ba_size s
  rw [ref_of_f k s hs (by omega), ref_text_f k s (by omega) hs]
  simp only [Option.bind_some, told_list]
  rw [if_pos (by rw [bstr_size, bstr_size, tl_length, List.length_append]; omega)]
  exact congrArg some (ba_ext (by rw [ba_append, bstr_list, bstr_list, bstr_list, ← ba_size]; rfl))

theorem ref_open_f (k : Nat) (s : ByteArray) (hs : s.size ≤ 140737488355328) (hk : 10 * s.size + 10 ≤ k) : vedetteref1_Open.f k s = some (opn s) := by
  unfold vedetteref1_Open.f opn
  rw [ref_texts_f s 40000 k (by omega) hs (by omega) (by omega)]
  simp only [Option.bind_some]
  have hr := texts_range s 40000
  obtain ⟨b, n, e, ht⟩ : ∃ b n e, texts s 40000 = (b, n, e) := ⟨_, _, _, rfl⟩
  -- the text's own bytes stand in front
  have hpre : e = 0 → s.data.toList.take n.toNat = enc b.size ++ b.data.toList := by
    intro he
    have ht2 := ht
    unfold texts at ht2
    obtain ⟨u, m, f, hd⟩ : ∃ u m f, dec s.data.toList 0 0 = (u, m, f) := ⟨_, _, _, rfl⟩
    have hdr := dec0_range hd
    rw [ba_size] at hdr
    rw [hd] at ht2
    dsimp only at ht2
    by_cases hf : f = 0
    · rw [if_pos hf] at ht2
      by_cases h1 : u > mx 40000 0
      · rw [if_pos h1] at ht2
        simp only [Prod.mk.injEq] at ht2
        omega
      · rw [if_neg h1] at ht2
        by_cases h2 : u > (s.size : Int) - m
        · rw [if_pos h2] at ht2
          simp only [Prod.mk.injEq] at ht2
          omega
        · rw [if_neg h2] at ht2
          simp only [Prod.mk.injEq] at ht2
          obtain ⟨hb, hn, _⟩ := ht2
          subst hf
          obtain ⟨v, hv, hpv, _⟩ := dec_canon s.data.toList 0 0 u m (by omega) (by simp) hd
          have huv : u = (v : Int) := by rw [hv]; simp
          have hbl : b.data.toList = (s.data.toList.drop m.toNat).take v := by
            rw [← hb, Lib.extract_data]
            congr 1
            omega
          have hbs : b.size = v := by
            rw [← ba_size, hbl, List.length_take, List.length_drop, ba_size]
            omega
          rw [← hn, show (m + u).toNat = m.toNat + v by omega, List.take_add, hbl, hbs, ← hpv]
          rfl
    · rw [if_neg hf] at ht2
      simp only [Prod.mk.injEq] at ht2
      omega
  rw [ht] at hr ⊢
  dsimp only at hr ⊢
  by_cases he : e = 0
  · rw [if_pos he, if_pos he]
    have hpre := hpre he
    rcases hr with ⟨_, h1, h2, h3, h4⟩ | h
    · have hm : mx 40000 0 = 40000 := by decide
      rw [hm] at h4
      have ew4 : wrap64 (n + 4) = n + 4 := wrap64_of (by omega) (by omega)
      rw [ew4]
      by_cases h5 : (s.size : Int) - n < 4
      · rw [if_pos (by omega), if_pos h5]
      · rw [if_neg (by omega), if_neg h5, ref_wrap_f k b (by omega) (by omega)]
        simp only [Option.bind_some]
        rw [if_pos (by omega), if_pos (by omega)]
        have e1 : (s.extract 0 (n + 4).toNat).toList = (enc b.size ++ b.data.toList) ++ (s.data.toList.drop n.toNat).take 4 := by
          rw [ByteArray.toList_eq, Lib.extract_data, List.drop_zero, Nat.sub_zero, show (n + 4).toNat = n.toNat + 4 by omega, List.take_add, hpre]
        have e2 : (bstr (frame b.data.toList)).toList = (enc b.size ++ b.data.toList) ++ tl (crc b.data.toList) := by
          rw [ByteArray.toList_eq, bstr_list, ← ba_size b]; rfl
        rw [e1, e2]
        by_cases h6 : (s.data.toList.drop n.toNat).take 4 = tl (crc b.data.toList)
        · rw [if_pos h6, if_pos (by rw [h6])]
        · rw [if_neg h6, if_neg (fun h => h6 (List.append_cancel_left h).symm)]
    · exact absurd he h
  · rw [if_neg he, if_neg he]
end Go.Proofs.Ytbaefdodchgbkaa.Num
