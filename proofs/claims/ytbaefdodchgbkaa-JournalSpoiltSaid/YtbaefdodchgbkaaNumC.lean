/- What the document's numbers compute, told by plain lists. -/
import Derived.Test.YtbaefdodchgbkaaNumB
import Derived.Test.YtbaefdodchgbkaaPrint1
import Derived.Test.YtbaefdodchgbkaaPrint3
namespace Go.Proofs.Ytbaefdodchgbkaa.Num
open Go.RowKit Go.Proofs.YtbaefdodchgbkaaW.PrintWords Go.Proofs.YtbaefdodchgbkaaW.PrintMore Go.Proofs.Ytbaefdodchgbkaa.Print

theorem ref_j1_true (k : Nat) (s : ByteArray) (out i c : Int) : vedetteref1_Get.j1 (k + 1) s out i c true = some (0, 0, 11) := by
  rw [vedetteref1_Get.j1, if_pos rfl]
theorem ref_l0_end (k : Nat) (s : ByteArray) (out i : Int) (h : ¬ i < (s.size : Int)) : vedetteref1_Get.l0 (k + 1) s out i = some (0, 0, 10) := by
  rw [vedetteref1_Get.l0, if_neg h]
theorem ref_l0_in (k : Nat) (s : ByteArray) (out i : Int) (h : i < (s.size : Int)) (h0 : 0 ≤ i) (b : Bool) (hb : b = (decide (i = 9) && decide (bt s i > 1))) : vedetteref1_Get.l0 (k + 1) s out i = vedetteref1_Get.j1 k s out i (bt s i) b := by
  rw [vedetteref1_Get.l0, if_pos h, if_pos h0]
  by_cases h9 : i = 9
  · rw [if_pos h9, hb, decide_eq_true h9, Bool.true_and]
  · rw [if_neg h9, hb, decide_eq_false h9, Bool.false_and]
theorem ref_j1_false (k : Nat) (s : ByteArray) (out i c : Int) (h : 0 ≤ IntKind.u64.wrap (wrap64 (7 * i))) : vedetteref1_Get.j1 (k + 1) s out i c false =
    (if c < 128 then (if c = 0 then (if i > 0 then some (0, 0, 11) else some (Go.bits .or .u64 out (shl .u64 (IntKind.u64.wrap (Go.bits .and .u8 c 127)) (IntKind.u64.wrap (wrap64 (7 * i)))), wrap64 (i + 1), 0)) else some (Go.bits .or .u64 out (shl .u64 (IntKind.u64.wrap (Go.bits .and .u8 c 127)) (IntKind.u64.wrap (wrap64 (7 * i)))), wrap64 (i + 1), 0))
     else vedetteref1_Get.l0 k s (Go.bits .or .u64 out (shl .u64 (IntKind.u64.wrap (Go.bits .and .u8 c 127)) (IntKind.u64.wrap (wrap64 (7 * i))))) (wrap64 (i + 1))) := by
  rw [vedetteref1_Get.j1, if_neg (by simp), if_pos h]

theorem ref_step (k : Nat) (s : ByteArray) (out i : Nat) (c : UInt8) (hi : i ≤ 9) (ho : out < 2 ^ (7 * i)) (hfit : out + c.toNat % 128 * 2 ^ (7 * i) < 18446744073709551616) (hcl : c.toNat < 256) :
    vedetteref1_Get.j1 (k + 1) s (out : Int) (i : Int) (c.toNat : Int) false =
    (if c.toNat < 128 then (if c.toNat = 0 then (if i > 0 then some (0, 0, 11) else some (((out + c.toNat % 128 * 2 ^ (7 * i) : Nat) : Int), (i : Int) + 1, 0)) else some (((out + c.toNat % 128 * 2 ^ (7 * i) : Nat) : Int), (i : Int) + 1, 0))
     else vedetteref1_Get.l0 k s ((out + c.toNat % 128 * 2 ^ (7 * i) : Nat) : Int) ((i + 1 : Nat) : Int)) := by
  have hsh : shl .u64 ((c.toNat % 128 : Nat) : Int) (7 * (i : Int)) = ((c.toNat % 128 : Nat) : Int) * 2 ^ (7 * i) := by
    unfold shl
    have en : min (7 * (i : Int)).toNat IntKind.u64.bits = 7 * i := by
      have : (7 * (i : Int)).toNat = 7 * i := by omega
      rw [this]
      exact Nat.min_eq_left (by simp only [IntKind.bits]; omega)
    rw [en]
    have e : (((c.toNat % 128 : Nat) : Int) * 2 ^ (7 * i)) = ((c.toNat % 128 * 2 ^ (7 * i) : Nat) : Int) := by push_cast; rfl
    rw [e]
    exact u64_of (by omega) (by omega)
  have hor := u64_or_add _ _ _ ho hfit
  have hm : ((c.toNat : Int) % 128) = ((c.toNat % 128 : Nat) : Int) := by omega
  have hcc : IntKind.u64.wrap (Go.bits .and .u8 (c.toNat : Int) 127) = ((c.toNat % 128 : Nat) : Int) := by
    rw [u8_and127 _ (by omega) (by omega), hm, u64_of (by omega) (by omega)]
  have e1 : wrap64 (7 * (i : Int)) = 7 * (i : Int) := wrap64_of (by omega) (by omega)
  have e2 : IntKind.u64.wrap (7 * (i : Int)) = 7 * (i : Int) := u64_of (by omega) (by omega)
  have e3 : wrap64 ((i : Int) + 1) = ((i + 1 : Nat) : Int) := wrap64_of (x := (i : Int) + 1) (by omega) (by omega)
  have hpos : 0 ≤ IntKind.u64.wrap (wrap64 (7 * (i : Int))) := by rw [e1, e2]; exact Int.mul_nonneg (by decide) (Int.natCast_nonneg _)
  rw [ref_j1_false _ _ _ _ _ hpos, hcc, e1, e2, e3, hsh, hor]
  clear hsh hor hcc e1 e2 e3 hpos
  by_cases hc : c.toNat < 128
  · rw [if_pos hc, if_pos (show (c.toNat : Int) < 128 by omega)]
    by_cases hz : c.toNat = 0
    · rw [if_pos hz, if_pos (show (c.toNat : Int) = 0 by omega)]
      by_cases h0 : i > 0
      · rw [if_pos h0, if_pos (show (i : Int) > 0 by omega)]
      · rw [if_neg h0, if_neg (show ¬ (i : Int) > 0 by omega)]
        rfl
    · rw [if_neg hz, if_neg (show ¬ (c.toNat : Int) = 0 by omega)]
      rfl
  · rw [if_neg hc, if_neg (show ¬ (c.toNat : Int) < 128 by omega)]

theorem ref_get_l0 (s : ByteArray) : ∀ (d k i out : Nat), s.size - i ≤ d → 2 * d + 1 ≤ k → i ≤ s.size → i ≤ 9 → out < 2 ^ (7 * i) →
    vedetteref1_Get.l0 k s (out : Int) (i : Int) = some (dec (s.data.toList.drop i) i out) := by
  intro d
  induction d with
  | zero =>
    intro k i out h1 hk h2 hi ho
    obtain ⟨k, rfl⟩ : ∃ m, k = m + 1 := ⟨k - 1, by omega⟩
    rw [ref_l0_end _ _ _ _ (by omega), List.drop_eq_nil_of_le (by rw [ba_size]; omega)]
    simp [dec]
  | succ d ih =>
    intro k i out h1 hk h2 hi ho
    obtain ⟨k, rfl⟩ : ∃ m, k = m + 2 := ⟨k - 2, by omega⟩
    by_cases h : i < s.size
    · have hl : i < s.data.toList.length := by rw [ba_size]; exact h
      have hb := bt_get s i h
      have hlt := (s.data.toList[i]).toNat_lt
      rw [ref_l0_in _ _ _ _ (by omega) (by omega) _ rfl, hb, List.drop_eq_getElem_cons hl]
      generalize s.data.toList[i] = c at *
      by_cases h9 : i = 9 ∧ c.toNat > 1
      · have et : (decide ((i : Int) = 9) && decide ((c.toNat : Int) > 1)) = true := by rw [decide_eq_true (by omega), decide_eq_true (by omega)]; rfl
        rw [et, ref_j1_true]
        simp only [dec]
        rw [if_pos (.inl h9)]
      · have et : (decide ((i : Int) = 9) && decide ((c.toNat : Int) > 1)) = false := by
          by_cases hi9 : i = 9
          · rw [decide_eq_false (p := (c.toNat : Int) > 1) (by omega), Bool.and_false]
          · rw [decide_eq_false (p := (i : Int) = 9) (by omega), Bool.false_and]
        have hfit := fits (c := c.toNat % 128) hi (by omega) (by omega) ho
        have hih := fun he => ih k (i + 1) (out + c.toNat % 128 * 2 ^ (7 * i)) (by omega) (by omega) (by omega) he hfit.2
        have hstep := ref_step k s out i c hi ho hfit.1 (by omega)
        rw [et, hstep]
        simp only [dec]
        by_cases hc : c.toNat < 128
        · have emod : c.toNat % 128 = c.toNat := by omega
          rw [if_pos hc, emod]
          by_cases hz : c.toNat = 0
          · by_cases hi0 : i > 0
            · rw [if_pos hz, if_pos hi0, if_pos (.inr ⟨hi0, hz⟩)]
            · rw [if_pos hz, if_neg hi0, if_neg (by omega), if_pos hc]
          · rw [if_neg hz, if_neg (by omega), if_pos hc]
        · rw [if_neg hc, if_neg (by omega), if_neg hc]
          exact hih (by omega)
    · rw [ref_l0_end _ _ _ _ (by omega), List.drop_eq_nil_of_le (by rw [ba_size]; omega)]
      simp [dec]

theorem ref_get_f (s : ByteArray) (k : Nat) (hk : 2 * s.size + 1 ≤ k) : vedetteref1_Get.f k s = some (dec s.data.toList 0 0) := by
  unfold vedetteref1_Get.f
  have := ref_get_l0 s s.size k 0 0 (by omega) (by omega) (by omega) (by omega) (by simp)
  simpa using this

theorem mx_comm (a b : Int) : mx a b = mx b a := by unfold mx; split <;> split <;> omega
theorem ref_texts_f (s : ByteArray) (most : Int) (k : Nat) (hk : 2 * s.size + 1 ≤ k) (hs : s.size ≤ 140737488355328) (h0 : -9223372036854775808 ≤ most) (h1 : most ≤ 9223372036854775807) : vedetteref1_Texts.f k s most = some (texts s most) := by
  have h := texts_f s most hs h0 h1
  unfold num_Texts.f at h
  rw [get_f s (by omega)] at h
  unfold vedetteref1_Texts.f
  rw [ref_get_f s k hk, mx_comm 0 most]
  exact h

theorem ref_put_l0 : ∀ (d k x : Nat) (l : List UInt8), x < 18446744073709551616 → x < 128 * 128 ^ d → d < k → l.length + d + 1 ≤ 9223372036854775807 →
    vedetteref1_Put.l0 k (x : Int) (bstr l) = some (bstr (l ++ enc x)) := by
  intro d
  induction d with
  | zero =>
    intro k x l hx64 hx hk hl
    obtain ⟨k, rfl⟩ : ∃ m, k = m + 1 := ⟨k - 1, by omega⟩
    have e : ((x : Int) % 256).toNat = x := by omega
    simp only [vedetteref1_Put.l0]
    rw [if_pos (by omega)]
    simp only [Option.bind_some, strOfNums_eq, List.map_cons, List.map_nil, e]
    rw [if_pos (by rw [bstr_size, show (ByteArray.mk [UInt8.ofNat x].toArray).size = 1 from rfl]; omega), enc_small (by omega)]
    exact congrArg some (ba_ext (by rw [ba_append]; rfl))
  | succ d ih =>
    intro k x l hx64 hx hk hl
    obtain ⟨k, rfl⟩ : ∃ m, k = m + 1 := ⟨k - 1, by omega⟩
    simp only [vedetteref1_Put.l0]
    by_cases h : x < 128
    · have e : ((x : Int) % 256).toNat = x := by omega
      rw [if_pos (by omega)]
      simp only [Option.bind_some, strOfNums_eq, List.map_cons, List.map_nil, e]
      rw [if_pos (by rw [bstr_size, show (ByteArray.mk [UInt8.ofNat x].toArray).size = 1 from rfl]; omega), enc_small (by omega)]
      exact congrArg some (ba_ext (by rw [ba_append]; rfl))
    · · have e1 : ((x : Int) / 128) = ((x / 128 : Nat) : Int) := by omega
        have e2 : ((x : Int) % 128 + 128).toNat = x % 128 + 128 := by omega
        have ea : Go.bits .and .u64 (x : Int) 127 % 256 = (x : Int) % 128 % 256 := by rw [u64_and127 _ (by omega) (by omega)]
        rw [if_neg (by omega), ea, u8_or128_mod, show (x : Int) % 128 % 128 + 128 = (x : Int) % 128 + 128 by omega, e1]
        simp only [Option.bind_some, strOfNums_eq, List.map_cons, List.map_nil, e2]
        rw [if_pos (by rw [bstr_size, show (ByteArray.mk [UInt8.ofNat (x % 128 + 128)].toArray).size = 1 from rfl]; omega)]
        have eb : bstr l ++ (ByteArray.mk [UInt8.ofNat (x % 128 + 128)].toArray) = bstr (l ++ [UInt8.ofNat (x % 128 + 128)]) := ba_ext (by rw [ba_append]; rfl)
        rw [eb, ih k (x / 128) _ (by omega) (by rw [Nat.pow_succ] at hx; omega) (by omega) (by simp only [List.length_append, List.length_cons, List.length_nil]; omega), enc_big (n := x) (by omega)]
        simp only [List.append_assoc, List.cons_append, List.nil_append]

theorem ref_put_f (k n : Nat) (hk : 10 ≤ k) (h : n < 18446744073709551616) : vedetteref1_Put.f k (n : Int) = some (bstr (enc n)) := by
  unfold vedetteref1_Put.f
  have e : (⟨#[]⟩ : ByteArray) = bstr [] := rfl
  rw [e]
  have := ref_put_l0 9 k n [] h (by rw [show (128 : Nat) * 128 ^ 9 = 1180591620717411303424 by decide]; omega) (by omega) (by simp)
  simpa using this
theorem ref_text_f (k : Nat) (s : ByteArray) (hk : 10 ≤ k) (hs : s.size ≤ 140737488355328) : vedetteref1_Text.f k s = some (bstr (enc s.size ++ s.data.toList)) := by
  unfold vedetteref1_Text.f
  have hl := enc_length10 (n := s.size) (by omega)
  rw [u64_of (by omega) (by omega), ref_put_f k s.size hk (by omega)]
  simp only [Option.bind_some]
  rw [if_pos (by rw [bstr_size]; omega)]
  exact congrArg some (ba_ext (by rw [ba_append]; rfl))
end Go.Proofs.Ytbaefdodchgbkaa.Num
