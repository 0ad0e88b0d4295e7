/- More on the bytes of numbers: how many they are, which have bit 128; what a literal's number says of its size. -/
import Derived.Test.YtbaefdodchgbkaaNumA
namespace Go.Proofs.Ytbaefdodchgbkaa.Num
open Go.Proofs.YtbaefdodchgbkaaW.PrintWords Go.Proofs.YtbaefdodchgbkaaW.PrintMore

theorem wf_u8 {a : Int} (h : (Lit.int .u8 a).wf = true) : 0 ≤ a ∧ a < 256 := by
  simp [Lit.wf, IntKind.min, IntKind.max, IntKind.bits, IntKind.signed] at h
  omega
theorem wf_u16 {a : Int} (h : (Lit.int .u16 a).wf = true) : 0 ≤ a ∧ a < 65536 := by
  simp [Lit.wf, IntKind.min, IntKind.max, IntKind.bits, IntKind.signed] at h
  omega
theorem wf_u64 {a : Int} (h : (Lit.int .u64 a).wf = true) : 0 ≤ a ∧ a < 18446744073709551616 := by
  simp [Lit.wf, IntKind.min, IntKind.max, IntKind.bits, IntKind.signed] at h
  omega
theorem wf_i64 {a : Int} (h : (Lit.int .i64 a).wf = true) : -9223372036854775808 ≤ a ∧ a ≤ 9223372036854775807 := by
  simp [Lit.wf, IntKind.min, IntKind.max, IntKind.bits, IntKind.signed] at h
  omega

theorem enc_len (d : Nat) : ∀ n j, n ≤ d → 2 ^ j ≤ n → n < 2 ^ (j + 1) → (enc n).length = j / 7 + 1 := by
  induction d using Nat.strongRecOn with
  | _ d ih =>
  intro n j hd h0 h1
  by_cases hj : j < 7
  · have : 2 ^ (j + 1) ≤ 2 ^ 7 := Nat.pow_le_pow_right (by omega) (by omega)
    rw [enc_small (by omega)]
    simp only [List.length_cons, List.length_nil]
    omega
  · obtain ⟨i, rfl⟩ : ∃ i, j = i + 7 := ⟨j - 7, by omega⟩
    have e1 : 2 ^ (i + 7) = 128 * 2 ^ i := by rw [Nat.pow_add, Nat.mul_comm]
    have e2 : 2 ^ (i + 7 + 1) = 128 * 2 ^ (i + 1) := by rw [show i + 7 + 1 = i + 1 + 7 by omega, Nat.pow_add, Nat.mul_comm]
    have hp : 0 < 2 ^ i := Nat.pow_pos (by omega)
    rw [enc_big (by omega)]
    have := ih (n / 128) (by omega) (n / 128) i (Nat.le_refl _) (by omega) (by omega)
    simp only [List.length_cons, this]
    omega

theorem enc_more (d : Nat) : ∀ n i (_ : n ≤ d) (h : i < (enc n).length), 128 ≤ ((enc n)[i]).toNat ↔ i + 1 < (enc n).length := by
  induction d using Nat.strongRecOn with
  | _ d ih =>
  intro n i hd h
  by_cases hn : n < 128
  · have e : enc n = [UInt8.ofNat n] := enc_small hn
    simp only [e] at h ⊢
    have hi : i = 0 := by simpa using h
    subst hi
    simp [ofNat_toNat (show n < 256 by omega)]
    omega
  · have e : enc n = UInt8.ofNat (n % 128 + 128) :: enc (n / 128) := enc_big (by omega)
    simp only [e] at h ⊢
    cases i with
    | zero =>
      have := enc_pos (n / 128)
      simp
      omega
    | succ i =>
      have := ih (n / 128) (by omega) (n / 128) i (Nat.le_refl _) (by simpa using h)
      simp only [List.getElem_cons_succ, List.length_cons]
      omega

theorem enc_inj {a b : Nat} (ha : a < 18446744073709551616) (hb : b < 18446744073709551616) {t : List UInt8} (h : enc a ++ t = enc b) : a = b := by
  have h1 := dec_enc0 a t ha
  have h2 := dec_enc0 b [] hb
  rw [List.append_nil, ← h, h1] at h2
  simp only [Prod.mk.injEq] at h2
  omega

theorem toList_eq (s : ByteArray) : s.toList = s.data.toList := ByteArray.toList_eq s
end Go.Proofs.Ytbaefdodchgbkaa.Num
