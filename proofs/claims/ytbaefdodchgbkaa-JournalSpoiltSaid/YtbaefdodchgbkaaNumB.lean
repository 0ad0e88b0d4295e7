/- What the printed functions of num and of the document's numbers compute, told by plain lists. -/
import Derived.Test.YtbaefdodchgbkaaNumA
import Derived.Test.YtbaefdodchgbkaaPrint1
import Derived.Test.YtbaefdodchgbkaaPrint2
namespace Go.Proofs.Ytbaefdodchgbkaa.Num
open Go.RowKit Go.Proofs.YtbaefdodchgbkaaW.PrintWords Go.Proofs.YtbaefdodchgbkaaW.PrintMore Go.Proofs.Ytbaefdodchgbkaa.Print

def bstr (l : List UInt8) : ByteArray := ⟨l.toArray⟩
theorem bstr_list (l : List UInt8) : (bstr l).data.toList = l := rfl
theorem bstr_size (l : List UInt8) : (bstr l).size = l.length := by simp [bstr, ByteArray.size]

theorem put_l0 : ∀ (d k x : Nat) (l : List Int), x < 128 * 128 ^ d → d < k → l.length + d < 140737488355328 →
    num_Put.l0 k (x : Int) l = some ⟨(l.map (fun n => UInt8.ofNat n.toNat) ++ enc x).toArray⟩ := by
  intro d
  induction d with
  | zero =>
    intro k x l hx hk hl
    obtain ⟨k, rfl⟩ : ∃ m, k = m + 1 := ⟨k - 1, by omega⟩
    have e : ((x : Int) % 256).toNat = x := by omega
    simp only [num_Put.l0]
    rw [if_neg (by omega), if_pos (by omega), enc_small (by omega), strOfNums_eq]
    simp only [List.map_append, List.map_cons, List.map_nil, e]
  | succ d ih =>
    intro k x l hx hk hl
    obtain ⟨k, rfl⟩ : ∃ m, k = m + 1 := ⟨k - 1, by omega⟩
    simp only [num_Put.l0]
    by_cases h : x < 128
    · have e : ((x : Int) % 256).toNat = x := by omega
      rw [if_neg (by omega), if_pos (by omega), enc_small h, strOfNums_eq]
      simp only [List.map_append, List.map_cons, List.map_nil, e]
    · have e1 : ((x : Int) / 128) = ((x / 128 : Nat) : Int) := by omega
      have e2 : ((x : Int) % 128 + 128).toNat = x % 128 + 128 := by omega
      rw [if_pos (by omega), if_pos (by omega), u8_or128_mod, e1, ih k (x / 128) _ (by rw [Nat.pow_succ] at hx; omega) (by omega) (by simp only [List.length_append, List.length_cons, List.length_nil]; omega), enc_big (n := x) (by omega)]
      simp only [List.map_append, List.map_cons, List.map_nil, e2, List.append_assoc, List.cons_append, List.nil_append]

theorem put_f (k n : Nat) (hk : 10 ≤ k) (h : n < 18446744073709551616) : num_Put.f k (n : Int) = some (bstr (enc n)) := by
  unfold num_Put.f
  rw [put_l0 9 k n [] (by rw [show (128 : Nat) * 128 ^ 9 = 1180591620717411303424 by decide]; omega) (by omega) (by simp)]
  rfl

theorem get_l0 (s : ByteArray) : ∀ (k i out : Nat), s.size < k + i → i ≤ s.size → i ≤ 9 → out < 2 ^ (7 * i) →
    num_Get.l0 k s (out : Int) i = some (dec (s.data.toList.drop i) i out) := by
  intro k
  induction k with
  | zero => intro i out h1 h2; omega
  | succ k ih =>
    intro i out h1 h2 hi ho
    simp only [num_Get.l0]
    by_cases h : i < s.size
    · have hl : i < s.data.toList.length := by rw [ba_size]; exact h
      have hb := bt_get s i h
      have hlt := (s.data.toList[i]).toNat_lt
      rw [if_pos h, hb, List.drop_eq_getElem_cons hl]
      generalize s.data.toList[i] = c at *
      simp only [dec]
      by_cases hf : (i = 9 ∧ c.toNat > 1) ∨ (i > 0 ∧ c.toNat = 0)
      · rw [if_pos (by omega), if_pos hf]
      · rw [if_neg (by omega), if_neg hf]
        by_cases hc : c.toNat < 128
        · have hfit := fits hi hc (by omega) ho
          have hw : IntKind.u64.wrap ((c.toNat : Int) * 2 ^ (7 * i)) = (c.toNat : Int) * 2 ^ (7 * i) := by
            rw [IntKind.wrap_u64]
            have e : ((c.toNat : Int) * 2 ^ (7 * i)) = ((c.toNat * 2 ^ (7 * i) : Nat) : Int) := by push_cast; rfl
            rw [e]
            omega
          rw [if_pos (by omega), if_pos hc, hw, u64_or_add _ _ _ ho hfit.1]
        · have hm : ((c.toNat : Int) % 128) = ((c.toNat % 128 : Nat) : Int) := by omega
          have hfit := fits (c := c.toNat % 128) hi (by omega) (by omega) ho
          have hw : IntKind.u64.wrap (IntKind.u64.wrap (Go.bits .andNot .u8 (c.toNat : Int) 128) * 2 ^ (7 * i)) = ((c.toNat % 128 : Nat) : Int) * 2 ^ (7 * i) := by
            rw [u8_andNot128 _ (by omega) (by omega), hm, IntKind.wrap_u64, IntKind.wrap_u64]
            have e0 : (((c.toNat % 128 : Nat) : Int) % 18446744073709551616) = ((c.toNat % 128 : Nat) : Int) := by omega
            rw [e0]
            have e : (((c.toNat % 128 : Nat) : Int) * 2 ^ (7 * i)) = ((c.toNat % 128 * 2 ^ (7 * i) : Nat) : Int) := by push_cast; rfl
            rw [e]
            omega
          rw [if_neg (by omega), if_neg hc, hw, u64_or_add _ _ _ ho hfit.1]
          exact ih (i + 1) _ (by omega) (by omega) (by omega) hfit.2
    · rw [if_neg h, List.drop_eq_nil_of_le (by rw [ba_size]; omega)]
      simp [dec]

theorem get_f (s : ByteArray) (h : s.size ≤ 9223372036854775807) : num_Get.f s = some (dec s.data.toList 0 0) := by
  unfold num_Get.f
  rw [if_pos h]
  have := get_l0 s (s.size + 1) 0 0 (by omega) (by omega) (by omega) (by simp)
  simpa using this

theorem wrap64_of {x : Int} (h0 : -9223372036854775808 ≤ x) (h1 : x ≤ 9223372036854775807) : wrap64 x = x := by
  unfold wrap64; omega
theorem u64_of {x : Int} (h0 : 0 ≤ x) (h1 : x < 18446744073709551616) : IntKind.u64.wrap x = x := by rw [IntKind.wrap_u64]; omega

/-- What Texts reads. -/
def texts (s : ByteArray) (most : Int) : ByteArray × Int × Int :=
  let d := dec s.data.toList 0 0
  if d.2.2 = 0 then
    (if d.1 > mx most 0 then (⟨#[]⟩, 0, 13)
     else if d.1 > (s.size : Int) - d.2.1 then (⟨#[]⟩, 0, 10)
     else (s.extract d.2.1.toNat (d.2.1 + d.1).toNat, d.2.1 + d.1, 0))
  else (⟨#[]⟩, 0, d.2.2)

theorem texts_f (s : ByteArray) (most : Int) (hs : s.size ≤ 140737488355328) (h0 : -9223372036854775808 ≤ most) (h1 : most ≤ 9223372036854775807) : num_Texts.f s most = some (texts s most) := by
  unfold num_Texts.f texts
  rw [get_f s (by omega)]
  simp only [Option.bind_some]
  obtain ⟨u, n, e, hd⟩ : ∃ u n e, dec s.data.toList 0 0 = (u, n, e) := ⟨_, _, _, rfl⟩
  have hr := dec0_range hd
  rw [ba_size] at hr
  rw [hd]
  dsimp only
  by_cases he : e = 0
  · rw [if_pos he, if_pos he]
    rcases hr with ⟨_, a, b, c, d⟩ | ⟨_, _, r⟩
    · have em : IntKind.u64.wrap (mx most 0) = mx most 0 := u64_of (by unfold mx; split <;> omega) (by unfold mx; split <;> omega)
      have hm : mx most 0 ≤ 9223372036854775807 := by unfold mx; split <;> omega
      have ew : wrap64 ((s.size : Int) - n) = (s.size : Int) - n := wrap64_of (by omega) (by omega)
      have eu : IntKind.u64.wrap ((s.size : Int) - n) = (s.size : Int) - n := u64_of (by omega) (by omega)
      rw [em, ew, eu]
      by_cases h2 : u > mx most 0
      · rw [if_pos h2, if_pos h2]
      · rw [if_neg h2, if_neg h2]
        by_cases h3 : u > (s.size : Int) - n
        · rw [if_pos h3, if_pos h3]
        · rw [if_neg h3, if_neg h3]
          have e1 : wrap64 u = u := wrap64_of (by omega) (by omega)
          have e2 : wrap64 (n + u) = n + u := wrap64_of (by omega) (by omega)
          rw [e1, e2, if_pos (by omega), if_pos (by omega), if_pos (by omega)]
    · omega
  · rw [if_neg he, if_neg he]

theorem text_f (k : Nat) (s : ByteArray) (hk : 10 ≤ k) (hs : s.size ≤ 140737488355328) : num_Text.f k s = some (bstr (enc s.size ++ s.data.toList)) := by
  unfold num_Text.f
  have hl := enc_length10 (n := s.size) (by omega)
  rw [u64_of (by omega) (by omega), put_f k s.size hk (by omega)]
  simp only [Option.bind_some]
  rw [if_pos (by rw [bstr_size]; omega)]
  exact congrArg some (ba_ext (by rw [ba_append]; rfl))

/-- What Text wrote is read by Texts, whatever stands behind it. -/
theorem texts_text (s tail : List UInt8) (most : Int) (h : s.length ≤ 140737488355328) (hm : (s.length : Int) ≤ mx most 0) :
    texts (bstr (enc s.length ++ s ++ tail)) most = (bstr s, ((enc s.length).length : Int) + s.length, 0) := by
  unfold texts
  have hd : dec (bstr (enc s.length ++ s ++ tail)).data.toList 0 0 = ((s.length : Int), ((enc s.length).length : Int), 0) := by
    rw [bstr_list, List.append_assoc]
    exact dec_enc0 s.length (s ++ tail) (by omega)
  rw [hd]
  dsimp only
  rw [if_pos rfl, if_neg (by omega), if_neg (by rw [bstr_size]; simp only [List.length_append]; omega)]
  refine Prod.ext (ba_ext ?_) rfl
  dsimp only
  rw [Lib.extract_data, bstr_list, bstr_list]
  have e1 : ((enc s.length).length : Int).toNat = (enc s.length).length := by omega
  have e2 : (((enc s.length).length : Int) + (s.length : Int)).toNat - (enc s.length).length = s.length := by omega
  rw [e1, e2, List.append_assoc, List.drop_left, List.take_left]

end Go.Proofs.Ytbaefdodchgbkaa.Num
