/- NumSizes: a number has as many bytes as it has sevens of bits; all but the last have bit 128. For every input. -/
import Derived.Test.YtgedcomfbkgkoaaPrint1
import Derived.Test.YtgedcomfbkgkoaaNumB
import Derived.Test.YtgedcomfbkgkoaaNumE
namespace Go.Proofs.Ytgedcomfbkgkoaa.Pure
open Go.RowKit Go.Proofs.Ytgedcomfbkgkoaa.Print Go.Proofs.YtgedcomfbkgkoaaW.PrintWords Go.Proofs.YtgedcomfbkgkoaaW.PrintLast Go.Proofs.YtgedcomfbkgkoaaW.PrintMore Go.Proofs.Ytgedcomfbkgkoaa.Num

theorem sizes_l0 (n : Nat) (hn : (enc n).length ≤ 10) : ∀ (d k i : Nat), i + d = (enc n).length → d < k → vedettelaw1_NumSizes.l0 k (bstr (enc n)) i = some true := by
  intro d
  induction d with
  | zero =>
    intro k i hi hk
    obtain ⟨k, rfl⟩ : ∃ m, k = m + 1 := ⟨k - 1, by omega⟩
    simp only [vedettelaw1_NumSizes.l0]
    rw [if_neg (by rw [bstr_size]; omega)]
  | succ d ih =>
    intro k i hi hk
    obtain ⟨k, rfl⟩ : ∃ m, k = m + 1 := ⟨k - 1, by omega⟩
    have hl : i < (enc n).length := by omega
    have hm := enc_more n n i (Nat.le_refl _) hl
    have hb : bt (bstr (enc n)) i = (((enc n)[i]).toNat : Int) := bt_get (bstr (enc n)) i (by rw [bstr_size]; exact hl)
    simp only [vedettelaw1_NumSizes.l0]
    rw [if_pos (by rw [bstr_size]; omega), if_pos (by omega), hb, bstr_size, wrap64_of (x := ((enc n).length : Int) - 1) (by omega) (by omega), wrap64_of (x := (i : Int) + 1) (by omega) (by omega)]
    have e : (decide ((((enc n)[i]).toNat : Int) ≥ 128) != decide ((i : Int) < ((enc n).length : Int) - 1)) = false := by
      by_cases h : i + 1 < (enc n).length
      · rw [decide_eq_true (by omega), decide_eq_true (by omega)]; rfl
      · rw [decide_eq_false (by omega), decide_eq_false (by omega)]; rfl
    rw [e, if_neg (by simp)]
    exact ih k (i + 1) (by omega) (by omega)

theorem shl_one (j p : Nat) (h : j < 64) (hp : 2 ^ j = p) : shl .u64 1 (j : Int) = (p : Int) := by
  have hle : (2 : Nat) ^ j ≤ 2 ^ 63 := Nat.pow_le_pow_right (by omega) (by omega)
  rw [hp, show (2 : Nat) ^ 63 = 9223372036854775808 by decide] at hle
  unfold shl
  rw [Int.toNat_natCast, Nat.min_eq_left (by simp only [IntKind.bits]; omega)]
  have e : ((1 : Int) * 2 ^ j) = (p : Int) := by rw [Int.one_mul, ← hp]; push_cast; rfl
  rw [e]
  exact u64_of (by omega) (by omega)

theorem sizes_tail (k n j : Nat) (hn : n < 18446744073709551616) (hl : (enc n).length = j / 7 + 1) (hj : j < 64) (hk : 10 ≤ k) (hk2 : (enc n).length < k) :
    ((num_Put.f k (n : Int)).bind fun t => if (t.size : Int) = wrap64 (wrap64 (Int.tdiv (j : Int) 7) + 1) then vedettelaw1_NumSizes.l0 k t 0 else some false) = some true := by
  have hl10 := enc_length10 hn
  have e7 : Int.tdiv (j : Int) 7 = (j : Int) / 7 := Int.tdiv_eq_ediv_of_nonneg (by omega)
  rw [put_f k _ hk hn, e7, wrap64_of (x := (j : Int) / 7) (by omega) (by omega), wrap64_of (x := (j : Int) / 7 + 1) (by omega) (by omega)]
  simp only [Option.bind_some]
  rw [if_pos (by rw [bstr_size, hl]; omega)]
  exact sizes_l0 _ hl10 _ k 0 (Nat.zero_add _) hk2

theorem sizes_num (b : Int) (j p : Nat) (hb : 0 ≤ b ∧ b < 18446744073709551616) (hj : j < 64) (hp : 2 ^ j = p) :
    ∃ n : Nat, Go.bits .or .u64 (p : Int) (Go.bits .and .u64 b (IntKind.u64.wrap ((p : Int) - 1))) = (n : Int) ∧ n < 18446744073709551616 ∧ (enc n).length = j / 7 + 1 := by
  have hle : (2 : Nat) ^ j ≤ 2 ^ 63 := Nat.pow_le_pow_right (by omega) (by omega)
  rw [hp, show (2 : Nat) ^ 63 = 9223372036854775808 by decide] at hle
  have hpos : 0 < p := by rw [← hp]; exact Nat.pow_pos (by omega)
  have hlt : b.toNat % p < p := Nat.mod_lt _ hpos
  have hand : Go.bits .and .u64 b ((p : Int) - 1) = ((b.toNat % p : Nat) : Int) := by
    rw [u64_and _ _ (by omega) (by omega) (by omega) (by omega)]
    rw [show ((p : Int) - 1).toNat = p - 1 by omega, ← hp, Nat.and_two_pow_sub_one_eq_mod]
  refine ⟨p + b.toNat % p, ?_, by omega, ?_⟩
  · rw [u64_of (x := (p : Int) - 1) (by omega) (by omega), hand, u64_or_nat _ _ (by omega) (by omega)]
    rw [← hp] at hlt ⊢
    have := Nat.two_pow_add_eq_or_of_lt hlt 1
    rw [Nat.mul_one] at this
    rw [← this]
  · exact enc_len _ (p + b.toNat % p) j (Nat.le_refl _) (by omega) (by rw [Nat.pow_succ, hp]; omega)

theorem NumSizes : vedettelaw1_NumSizes.Pure := by
  intro a b ha hb
  have ha := wf_u8 ha
  have hb := wf_u64 hb
  refine ⟨100, ?_⟩
  unfold vedettelaw1_NumSizes.f
  rw [known_f 100 (by omega)]
  simp only [Option.bind_some, if_true]
  obtain ⟨j, hj, hj64⟩ : ∃ j : Nat, wrap64 (Int.tmod a 64) = (j : Int) ∧ j < 64 := by
    refine ⟨a.toNat % 64, ?_, by omega⟩
    have : Int.tmod a 64 = a % 64 := Int.tmod_eq_emod_of_nonneg ha.1
    rw [this, wrap64_of (by omega) (by omega)]
    omega
  obtain ⟨p, hp⟩ : ∃ p, 2 ^ j = p := ⟨_, rfl⟩
  obtain ⟨n, hn, hn64, hl⟩ := sizes_num b j p hb hj64 hp
  have hl10 := enc_length10 hn64
  rw [hj, u64_of (x := (j : Int)) (by omega) (by omega), shl_one j p hj64 hp, hn, if_pos (by omega)]
  exact sizes_tail 100 n j hn64 hl hj64 (by omega) (by omega)
end Go.Proofs.Ytgedcomfbkgkoaa.Pure
