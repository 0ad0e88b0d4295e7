/- The bytes of numbers, in plain lists: what num's functions and the document's compute. -/
import Derived.Laws.BitsAllLaws
import Derived.Laws.BytesArg
import Derived.Lib.Strings
import Derived.Lib.IndexBytes
import Derived.Test.YtbaefdodchgbkaaWWords
import Derived.Test.YtbaefdodchgbkaaWMore
namespace Go.Proofs.Ytbaefdodchgbkaa.Num
open Go.Proofs.YtbaefdodchgbkaaW.PrintWords Go.Proofs.YtbaefdodchgbkaaW.PrintMore

def enc (n : Nat) : List UInt8 := if n < 128 then [UInt8.ofNat n] else UInt8.ofNat (n % 128 + 128) :: enc (n / 128)
termination_by n
decreasing_by omega

theorem enc_small {n : Nat} (h : n < 128) : enc n = [UInt8.ofNat n] := by rw [enc, if_pos h]
theorem enc_big {n : Nat} (h : 128 ≤ n) : enc n = UInt8.ofNat (n % 128 + 128) :: enc (n / 128) := by rw [enc, if_neg (by omega)]
theorem enc_pos (n : Nat) : 1 ≤ (enc n).length := by rw [enc]; split <;> simp

theorem enc_length : ∀ (d n : Nat), n < 128 * 128 ^ d → (enc n).length ≤ d + 1
  | 0, n, h => by rw [enc_small (by omega)]; simp
  | d + 1, n, h => by
    by_cases hn : n < 128
    · rw [enc_small hn]; simp
    · rw [enc_big (by omega)]
      have := enc_length d (n / 128) (by rw [Nat.pow_succ] at h; omega)
      simp only [List.length_cons]
      omega
theorem enc_length10 {n : Nat} (h : n < 18446744073709551616) : (enc n).length ≤ 10 := enc_length 9 n (by simp only [show (128 : Nat) * 128 ^ 9 = 1180591620717411303424 by decide]; omega)

theorem or128 : ∀ a : Fin 256, (a.val ||| 128) = a.val % 128 + 128 := by decide +kernel
theorem u8_or128_mod (x : Int) : Go.bits .or .u8 (x % 256) 128 = x % 128 + 128 := by
  rw [u8_or _ _ (by omega) (by omega) (by omega) (by omega)]
  have h := or128 ⟨(x % 256).toNat, by omega⟩
  simp only at h
  rw [show (128 : Int).toNat = 128 from rfl, h]
  omega
theorem and127 : ∀ a : Fin 256, (a.val &&& 127) = a.val % 128 := by decide +kernel
theorem u8_and127 (x : Int) (h0 : 0 ≤ x) (h1 : x < 256) : Go.bits .and .u8 x 127 = x % 128 := by
  rw [u8_and _ _ (by omega) (by omega) (by omega) (by omega)]
  have h := and127 ⟨x.toNat, by omega⟩
  simp only at h
  rw [show (127 : Int).toNat = 127 from rfl, h]
  omega
theorem u8_andNot128 (x : Int) (h0 : 0 ≤ x) (h1 : x < 256) : Go.bits .andNot .u8 x 128 = x % 128 := by
  rw [u8_andNot _ _ (by omega) (by omega) (by omega) (by omega)]
  have h := and127 ⟨x.toNat, by omega⟩
  simp only at h
  rw [show (255 - (128 : Int).toNat) = 127 from rfl, h]
  omega
theorem u64_and127 (x : Int) (h0 : 0 ≤ x) (h1 : x < 18446744073709551616) : Go.bits .and .u64 x 127 = x % 128 := by
  rw [u64_and _ _ (by omega) (by omega) (by omega) (by omega)]
  rw [show (127 : Int).toNat = 2 ^ 7 - 1 from rfl, Nat.and_two_pow_sub_one_eq_mod]
  omega
theorem u64_or_add (out c j : Nat) (ho : out < 2 ^ j) (h : out + c * 2 ^ j < 18446744073709551616) : Go.bits .or .u64 (out : Int) ((c : Int) * 2 ^ j) = ((out + c * 2 ^ j : Nat) : Int) := by
  have e : ((c : Int) * 2 ^ j) = ((c * 2 ^ j : Nat) : Int) := by push_cast; rfl
  rw [e, u64_or_nat _ _ (by omega) (by omega), Nat.or_comm, Nat.mul_comm, ← Nat.two_pow_add_eq_or_of_lt ho]
  omega

theorem strOfNums_eq (l : List Int) : strOfNums l = ⟨(l.map fun n => UInt8.ofNat n.toNat).toArray⟩ := rfl
theorem ba_ext {a b : ByteArray} (h : a.data.toList = b.data.toList) : a = b := by
  cases a with | mk a => cases b with | mk b => congr 1; exact Array.toList_inj.1 h
theorem ba_append (a b : ByteArray) : (a ++ b).data.toList = a.data.toList ++ b.data.toList := by simp
theorem ba_size (a : ByteArray) : a.data.toList.length = a.size := data_length a
theorem bt_get (s : ByteArray) (i : Nat) (h : i < s.size) : bt s i = ((s.data.toList[i]'(by rw [ba_size]; exact h)).toNat : Int) := by
  unfold bt
  simp only [Int.toNat_natCast]
  rw [dif_pos h]
  rfl

/-- What is read at the begin of a list of bytes: from place i on, with what was read so far. -/
def dec : List UInt8 → Nat → Nat → Int × Int × Int
  | [], _, _ => (0, 0, 10)
  | c :: t, i, out =>
    if (i = 9 ∧ c.toNat > 1) ∨ (i > 0 ∧ c.toNat = 0) then (0, 0, 11)
    else if c.toNat < 128 then (((out + c.toNat * 2 ^ (7 * i) : Nat) : Int), (i : Int) + 1, 0)
    else dec t (i + 1) (out + c.toNat % 128 * 2 ^ (7 * i))

theorem pow7 {i : Nat} (h : i ≤ 9) : 2 ^ (7 * i) ≤ 9223372036854775808 := by
  have : 2 ^ (7 * i) ≤ 2 ^ 63 := Nat.pow_le_pow_right (by omega) (by omega)
  simpa using this
theorem fits {i c out : Nat} (hi : i ≤ 9) (hc : c < 128) (h9 : ¬ (i = 9 ∧ c > 1)) (ho : out < 2 ^ (7 * i)) : out + c * 2 ^ (7 * i) < 18446744073709551616 ∧ out + c * 2 ^ (7 * i) < 2 ^ (7 * (i + 1)) := by
  have e : 2 ^ (7 * (i + 1)) = 128 * 2 ^ (7 * i) := by rw [Nat.mul_add, Nat.pow_add, Nat.mul_comm]
  have h1 : c * 2 ^ (7 * i) ≤ 127 * 2 ^ (7 * i) := Nat.mul_le_mul_right _ (by omega)
  refine ⟨?_, by omega⟩
  by_cases e9 : i = 9
  · subst e9
    have : c ≤ 1 := by omega
    have : c * 2 ^ (7 * 9) ≤ 1 * 2 ^ (7 * 9) := Nat.mul_le_mul_right _ this
    have : (2 : Nat) ^ (7 * 9) = 9223372036854775808 := by decide
    omega
  · have : 2 ^ (7 * (i + 1)) ≤ 2 ^ 63 := Nat.pow_le_pow_right (by omega) (by omega)
    have : (2 : Nat) ^ 63 = 9223372036854775808 := by decide
    omega

theorem ofNat_toNat {n : Nat} (h : n < 256) : (UInt8.ofNat n).toNat = n := by simp [UInt8.toNat_ofNat']; omega

/-- What Put wrote is read, whatever stands behind it. -/
theorem dec_enc (d : Nat) : ∀ (n i out : Nat) (tail : List UInt8), n ≤ d → (i = 0 ∨ 0 < n) → out + n * 2 ^ (7 * i) < 18446744073709551616 → out < 2 ^ (7 * i) →
    dec (enc n ++ tail) i out = (((out + n * 2 ^ (7 * i) : Nat) : Int), (i : Int) + ((enc n).length : Int), 0) := by
  induction d using Nat.strongRecOn with
  | _ d ih =>
  intro n i out tail hd hi h ho
  have hi9 : i ≤ 9 := by
    rcases hi with rfl | hn
    · omega
    · by_cases hh : i ≤ 9
      · exact hh
      · have h1 : 2 ^ 70 ≤ 2 ^ (7 * i) := Nat.pow_le_pow_right (by omega) (by omega)
        have h2 : 1 * 2 ^ (7 * i) ≤ n * 2 ^ (7 * i) := Nat.mul_le_mul_right _ hn
        have : (2 : Nat) ^ 70 = 1180591620717411303424 := by decide
        omega
  have h9 : i = 9 → n ≤ 1 := by
    rintro rfl
    have : (2 : Nat) ^ (7 * 9) = 9223372036854775808 := by decide
    by_cases hh : n ≤ 1
    · exact hh
    · have : 2 * 2 ^ (7 * 9) ≤ n * 2 ^ (7 * 9) := Nat.mul_le_mul_right _ (by omega)
      omega
  by_cases hn : n < 128
  · rw [enc_small hn]
    simp only [List.cons_append, List.nil_append, dec, ofNat_toNat (show n < 256 by omega)]
    rw [if_neg (by omega), if_pos hn]
    simp
  · rw [enc_big (by omega)]
    simp only [List.cons_append, dec, ofNat_toNat (show n % 128 + 128 < 256 by omega)]
    rw [if_neg (by omega), if_neg (by omega)]
    have e : 2 ^ (7 * (i + 1)) = 128 * 2 ^ (7 * i) := by rw [Nat.mul_add, Nat.pow_add, Nat.mul_comm]
    have em : (n % 128 + 128) % 128 = n % 128 := by omega
    have e2 : out + n % 128 * 2 ^ (7 * i) + n / 128 * 2 ^ (7 * (i + 1)) = out + n * 2 ^ (7 * i) := by
      rw [e, ← Nat.mul_assoc, Nat.add_assoc, ← Nat.add_mul]
      congr 2
      omega
    rw [em, ih (n / 128) (by omega) (n / 128) (i + 1) _ tail (Nat.le_refl _) (by omega) (by rw [e2]; exact h) ?_, e2]
    · simp only [List.length_cons, Prod.mk.injEq, true_and, and_true]
      omega
    · have h1 : n % 128 * 2 ^ (7 * i) ≤ 127 * 2 ^ (7 * i) := Nat.mul_le_mul_right _ (by omega)
      omega

theorem dec_enc0 (n : Nat) (tail : List UInt8) (h : n < 18446744073709551616) : dec (enc n ++ tail) 0 0 = ((n : Int), ((enc n).length : Int), 0) := by
  have := dec_enc n n 0 0 tail (Nat.le_refl _) (.inl rfl) (by simpa using h) (by simp)
  simpa using this

/-- A beginning of it isn't a number. -/
theorem dec_cut (d : Nat) : ∀ (n i out j : Nat), n ≤ d → (i = 0 ∨ 0 < n) → out + n * 2 ^ (7 * i) < 18446744073709551616 → out < 2 ^ (7 * i) → j < (enc n).length →
    dec ((enc n).take j) i out = (0, 0, 10) := by
  induction d using Nat.strongRecOn with
  | _ d ih =>
  intro n i out j hd hi h ho hj
  cases j with
  | zero => simp [dec]
  | succ j =>
    by_cases hn : n < 128
    · rw [enc_small hn] at hj; simp at hj
    · rw [enc_big (by omega)] at hj ⊢
      have h9 : i < 9 := by
        by_cases hh : i < 9
        · exact hh
        · have h1 : 2 ^ 63 ≤ 2 ^ (7 * i) := Nat.pow_le_pow_right (by omega) (by omega)
          have h2 : 128 * 2 ^ (7 * i) ≤ n * 2 ^ (7 * i) := Nat.mul_le_mul_right _ (by omega)
          have : (2 : Nat) ^ 63 = 9223372036854775808 := by decide
          omega
      simp only [List.take_succ_cons, dec, ofNat_toNat (show n % 128 + 128 < 256 by omega)]
      rw [if_neg (by omega), if_neg (by omega)]
      have e : 2 ^ (7 * (i + 1)) = 128 * 2 ^ (7 * i) := by rw [Nat.mul_add, Nat.pow_add, Nat.mul_comm]
      have em : (n % 128 + 128) % 128 = n % 128 := by omega
      have e2 : out + n % 128 * 2 ^ (7 * i) + n / 128 * 2 ^ (7 * (i + 1)) = out + n * 2 ^ (7 * i) := by
        rw [e, ← Nat.mul_assoc, Nat.add_assoc, ← Nat.add_mul]
        congr 2
        omega
      rw [em]
      refine ih (n / 128) (by omega) (n / 128) (i + 1) _ j (Nat.le_refl _) (by omega) (by rw [e2]; exact h) ?_ ?_
      · have h1 : n % 128 * 2 ^ (7 * i) ≤ 127 * 2 ^ (7 * i) := Nat.mul_le_mul_right _ (by omega)
        omega
      · simp only [List.length_cons] at hj; omega

/-- What is read lies in bounds. -/
theorem dec_range : ∀ (l : List UInt8) (i out : Nat), i ≤ 9 → out < 2 ^ (7 * i) → ∀ u n e, dec l i out = (u, n, e) →
    (e = 0 ∧ 0 ≤ u ∧ u < 18446744073709551616 ∧ (i : Int) + 1 ≤ n ∧ n ≤ (i : Int) + l.length) ∨ (u = 0 ∧ n = 0 ∧ (e = 10 ∨ e = 11))
  | [], i, out, _, _, u, n, e, h => by
    simp only [dec, Prod.mk.injEq] at h
    obtain ⟨rfl, rfl, rfl⟩ := h
    exact .inr ⟨rfl, rfl, .inl rfl⟩
  | c :: t, i, out, hi, ho, u, n, e, h => by
    simp only [dec] at h
    by_cases h1 : (i = 9 ∧ c.toNat > 1) ∨ (i > 0 ∧ c.toNat = 0)
    · rw [if_pos h1] at h
      simp only [Prod.mk.injEq] at h
      obtain ⟨rfl, rfl, rfl⟩ := h
      exact .inr ⟨rfl, rfl, .inr rfl⟩
    · rw [if_neg h1] at h
      by_cases h2 : c.toNat < 128
      · rw [if_pos h2] at h
        simp only [Prod.mk.injEq] at h
        obtain ⟨rfl, rfl, rfl⟩ := h
        have hf := fits hi h2 (by omega) ho
        refine .inl ⟨rfl, by omega, by omega, by omega, ?_⟩
        simp only [List.length_cons]
        omega
      · rw [if_neg h2] at h
        have hc := c.toNat_lt
        have hf := fits (c := c.toNat % 128) hi (by omega) (by omega) ho
        rcases dec_range t (i + 1) _ (by omega) hf.2 u n e h with ⟨a, b, c', d, f⟩ | r
        · refine .inl ⟨a, b, c', by omega, ?_⟩
          simp only [List.length_cons]
          omega
        · exact .inr r
theorem dec0_range {l : List UInt8} {u n e : Int} (h : dec l 0 0 = (u, n, e)) : (e = 0 ∧ 0 ≤ u ∧ u < 18446744073709551616 ∧ 1 ≤ n ∧ n ≤ l.length) ∨ (u = 0 ∧ n = 0 ∧ (e = 10 ∨ e = 11)) := by
  have := dec_range l 0 0 (by omega) (by simp) u n e h
  simpa using this
end Go.Proofs.Ytbaefdodchgbkaa.Num
