/- Numbers with a sign as numbers without, and back. -/
import Derived.Test.YtgedcomfbkgkoaaNumB
namespace Go.Proofs.Ytgedcomfbkgkoaa.Num
open Go.RowKit Go.Proofs.YtgedcomfbkgkoaaW.PrintWords Go.Proofs.YtgedcomfbkgkoaaW.PrintMore Go.Proofs.Ytgedcomfbkgkoaa.Print

def zig (z : Int) : Int := if 0 ≤ z then 2 * z else -2 * z - 1
def zag (u : Int) : Int := if u % 2 = 0 then u / 2 else -(u / 2) - 1

theorem xor_ones (x : Nat) (h : x < 18446744073709551616) : x ^^^ 18446744073709551615 = 18446744073709551615 - x := by
  have h1 : (BitVec.ofNat 64 x ^^^ BitVec.allOnes 64).toNat = (~~~ BitVec.ofNat 64 x).toNat := by rw [BitVec.xor_allOnes]
  rw [BitVec.toNat_xor, BitVec.toNat_not, BitVec.toNat_ofNat, BitVec.toNat_allOnes, Nat.mod_eq_of_lt (by omega)] at h1
  simpa using h1

theorem zig_f (z : Int) (h0 : -9223372036854775808 ≤ z) (h1 : z ≤ 9223372036854775807) : num_Zig.f z = some (zig z) := by
  unfold num_Zig.f zig
  refine congrArg some ?_
  rw [IntKind.wrap_u64, IntKind.wrap_u64, IntKind.wrap_u64]
  by_cases h : 0 ≤ z
  · rw [if_pos h]
    have e1 : z % 18446744073709551616 * 2 % 18446744073709551616 = 2 * z := by omega
    have e2 : z / 9223372036854775808 % 18446744073709551616 = 0 := by omega
    rw [e1, e2, u64_xor _ _ (by omega) (by omega) (by omega) (by omega)]
    simp only [Int.toNat_zero, Nat.xor_zero]
    omega
  · rw [if_neg h]
    have e1 : z % 18446744073709551616 * 2 % 18446744073709551616 = 18446744073709551616 + 2 * z := by omega
    have e2 : z / 9223372036854775808 % 18446744073709551616 = 18446744073709551615 := by omega
    rw [e1, e2, u64_xor _ _ (by omega) (by omega) (by omega) (by omega)]
    rw [show (18446744073709551615 : Int).toNat = 18446744073709551615 from rfl, xor_ones _ (by omega)]
    omega

theorem and1 (u : Int) (h0 : 0 ≤ u) (h1 : u < 18446744073709551616) : Go.bits .and .u64 u 1 = u % 2 := by
  rw [u64_and _ _ (by omega) (by omega) (by omega) (by omega)]
  rw [show (1 : Int).toNat = 2 ^ 1 - 1 from rfl, Nat.and_two_pow_sub_one_eq_mod]
  omega
theorem xor_i64_zero (a : Int) (h0 : 0 ≤ a) (h1 : a ≤ 9223372036854775807) : Go.bits .xor .i64 a 0 = a := by
  show IntKind.i64.wrap ((BitVec.ofInt 64 a ^^^ BitVec.ofInt 64 0).toNat : Int) = a
  have e : BitVec.ofInt 64 0 = 0#64 := rfl
  rw [e, BitVec.xor_zero, BitVec.toNat_ofInt, IntKind.wrap_i64]
  omega
theorem xor_i64_ones (a : Int) (h0 : 0 ≤ a) (h1 : a ≤ 9223372036854775807) : Go.bits .xor .i64 a (-1) = -a - 1 := by
  show IntKind.i64.wrap ((BitVec.ofInt 64 a ^^^ BitVec.ofInt 64 (-1)).toNat : Int) = _
  have e : BitVec.ofInt 64 (-1) = BitVec.allOnes 64 := by decide
  rw [e, BitVec.xor_allOnes, BitVec.toNat_not, BitVec.toNat_ofInt, IntKind.wrap_i64]
  omega

theorem zag_f (u : Int) (h0 : 0 ≤ u) (h1 : u < 18446744073709551616) : num_Zag.f u = some (zag u) := by
  unfold num_Zag.f zag
  refine congrArg some ?_
  rw [and1 u h0 h1, wrap64_of (x := u % 2) (by omega) (by omega), wrap64_of (x := u / 2) (by omega) (by omega), wrap64_of (x := -(u % 2)) (by omega) (by omega)]
  by_cases h : u % 2 = 0
  · rw [if_pos h, h]
    exact xor_i64_zero _ (by omega) (by omega)
  · rw [if_neg h, show -(u % 2) = -1 by omega]
    exact xor_i64_ones _ (by omega) (by omega)

theorem zig_range (z : Int) (h0 : -9223372036854775808 ≤ z) (h1 : z ≤ 9223372036854775807) : 0 ≤ zig z ∧ zig z < 18446744073709551616 := by unfold zig; split <;> omega
theorem zag_range (u : Int) (h0 : 0 ≤ u) (h1 : u < 18446744073709551616) : -9223372036854775808 ≤ zag u ∧ zag u ≤ 9223372036854775807 := by unfold zag; split <;> omega
theorem zag_zig (z : Int) : zag (zig z) = z := by unfold zag zig; split <;> split <;> omega
theorem zig_zag (u : Int) (h0 : 0 ≤ u) : zig (zag u) = u := by unfold zag zig; split <;> split <;> omega

theorem int_f (k : Nat) (z : Int) (hk : 10 ≤ k) (h0 : -9223372036854775808 ≤ z) (h1 : z ≤ 9223372036854775807) : num_Int.f k z = some (bstr (enc (zig z).toNat)) := by
  unfold num_Int.f
  have hr := zig_range z h0 h1
  rw [zig_f z h0 h1]
  simp only [Option.bind_some]
  have := put_f k (zig z).toNat hk (by omega)
  rw [show (((zig z).toNat : Nat) : Int) = zig z by omega] at this
  rw [this]
  rfl
end Go.Proofs.Ytgedcomfbkgkoaa.Num
