/- SumLinear: the sum of three texts of one length, bit by bit put together, is that of the three sums. For every input. -/
import Derived.Test.YtikncpfppeiplaaPrint4
import Derived.Test.YtikncpfppeiplaaSumK
import Derived.Test.YtikncpfppeiplaaNumE
namespace Go.Proofs.Ytikncpfppeiplaa.Pure
open Go.RowKit Go.Proofs.Ytikncpfppeiplaa.Print Go.Proofs.YtikncpfppeiplaaW.PrintWords Go.Proofs.YtikncpfppeiplaaW.PrintLast Go.Proofs.YtikncpfppeiplaaW.PrintMore Go.Proofs.Ytikncpfppeiplaa.Num

def z3 : List UInt8 → List UInt8 → List UInt8 → List UInt8
  | x :: a, y :: b, z :: c => (x ^^^ y ^^^ z) :: z3 a b c
  | _, _, _ => []
theorem z3_length : ∀ (a b c : List UInt8), a.length = b.length → b.length = c.length → (z3 a b c).length = a.length
  | [], _, _, _, _ => by simp [z3]
  | x :: a, [], _, h, _ => by simp at h
  | x :: a, y :: b, [], _, h => by simp at h
  | x :: a, y :: b, z :: c, h1, h2 => by
    simp only [z3, List.length_cons] at *
    rw [z3_length a b c (by omega) (by omega)]
theorem z3_get : ∀ (a b c : List UInt8) (i : Nat) (ha : i < a.length) (hb : i < b.length) (hc : i < c.length) (h : i < (z3 a b c).length), (z3 a b c)[i] = a[i] ^^^ b[i] ^^^ c[i]
  | [], _, _, _, ha, _, _, _ => by simp at ha
  | x :: a, [], _, _, _, hb, _, _ => by simp at hb
  | x :: a, y :: b, [], _, _, _, hc, _ => by simp at hc
  | x :: a, y :: b, z :: c, 0, _, _, _, _ => by simp [z3]
  | x :: a, y :: b, z :: c, i + 1, ha, hb, hc, h => by
    simp only [z3, List.getElem_cons_succ]
    exact z3_get a b c i (by simpa using ha) (by simpa using hb) (by simpa using hc) (by simpa [z3] using h)
theorem ngo_z3 : ∀ (a b c : List UInt8) (x y z : Nat), a.length = b.length → b.length = c.length →
    ngo ((z3 a b c).map UInt8.toNat) (x ^^^ y ^^^ z) = ngo (a.map UInt8.toNat) x ^^^ ngo (b.map UInt8.toNat) y ^^^ ngo (c.map UInt8.toNat) z
  | [], [], [], _, _, _, _, _ => rfl
  | [], y :: b, _, _, _, _, h, _ => by simp at h
  | [], [], z :: c, _, _, _, _, h => by simp at h
  | x :: a, [], _, _, _, _, h, _ => by simp at h
  | x :: a, y :: b, [], _, _, _, _, h => by simp at h
  | p :: a, q :: b, r :: c, x, y, z, h1, h2 => by
    simp only [z3, List.map_cons, ngo_cons, UInt8.toNat_xor]
    rw [nbyte_xor3]
    exact ngo_z3 a b c _ _ _ (by simpa using h1) (by simpa using h2)
theorem crc_z3 (a b c : List UInt8) (h1 : a.length = b.length) (h2 : b.length = c.length) : crc (z3 a b c) = crc a ^^^ crc b ^^^ crc c := by
  unfold crc
  have := ngo_z3 a b c 4294967295 4294967295 4294967295 h1 h2
  rw [Nat.xor_self, Nat.zero_xor] at this
  rw [this, xor_swap (ngo (a.map UInt8.toNat) 4294967295), Nat.xor_self, Nat.xor_zero, Nat.xor_assoc]

def toI (l : List UInt8) : List Int := l.map fun b : UInt8 => (b.toNat : Int)
theorem toI_length (l : List UInt8) : (toI l).length = l.length := List.length_map _
theorem strOf_toI (l : List UInt8) : strOfNums (toI l) = bstr l := by
  refine ba_ext ?_
  rw [strOfNums_data, bstr_list, toI, List.map_map]
  have : ((fun n : Int => UInt8.ofNat n.toNat) ∘ fun b : UInt8 => (b.toNat : Int)) = id := by
    funext b
    simp
  rw [this, List.map_id]

theorem linear_l0 (a b c : ByteArray) (n : Nat) (hn : n ≤ 100) (ha : n ≤ a.size) (hb : n ≤ b.size) (hc : n ≤ c.size) (Z : List UInt8) (hZ : Z.length = n)
    (hX : ∀ (i : Nat) (h : i < Z.length), Go.bits .xor .u8 (Go.bits .xor .u8 (bt a i) (bt b i)) (bt c i) = ((Z[i]).toNat : Int))
    (hend : ∀ k : Nat, vedettelaw2_SumLinear.l0 (k + 1) a b c (n : Int) (toI Z) (n : Int) = some true) :
    ∀ (d k i : Nat), i + d = n → d < k → vedettelaw2_SumLinear.l0 k a b c (n : Int) (toI (Z.take i) ++ List.replicate (n - i) 0) (i : Int) = some true := by
  intro d
  induction d with
  | zero =>
    intro k i hi hk
    obtain ⟨k, rfl⟩ : ∃ m, k = m + 1 := ⟨k - 1, by omega⟩
    obtain rfl : i = n := by omega
    rw [Nat.sub_self, List.replicate_zero, List.append_nil, List.take_of_length_le (by omega)]
    exact hend k
  | succ d ih =>
    intro k i hi hk
    obtain ⟨k, rfl⟩ : ∃ m, k = m + 1 := ⟨k - 1, by omega⟩
    have g1 : (i : Int) < (n : Int) := by omega
    have g0 : 0 ≤ (i : Int) := by omega
    have ga : (i : Int) < (a.size : Int) := by omega
    have gb : (i : Int) < (b.size : Int) := by omega
    have gc : (i : Int) < (c.size : Int) := by omega
    have hw : wrap64 ((i : Int) + 1) = ((i + 1 : Nat) : Int) := by rw [wrap64_of (by omega) (by omega)]; rfl
    have hnext := ih k (i + 1) (by omega) (by omega)
    have en : n - i = (n - (i + 1)) + 1 := by omega
    have lz : i < Z.length := by omega
    have hlen : (toI (Z.take i)).length = i := by rw [toI_length, List.length_take]; omega
    have hll : (i : Int) < ((toI (Z.take i) ++ List.replicate (n - i) 0).length : Int) := by
      have : i < (toI (Z.take i) ++ List.replicate (n - i) (0 : Int)).length := by rw [List.length_append, hlen, List.length_replicate]; omega
      omega
    have hset : (toI (Z.take i) ++ List.replicate (n - i) 0).set ((i : Nat) : Int).toNat (Go.bits .xor .u8 (Go.bits .xor .u8 (bt a i) (bt b i)) (bt c i)) = toI (Z.take (i + 1)) ++ List.replicate (n - (i + 1)) 0 := by
      rw [hX i lz, Int.toNat_natCast, List.set_append_right _ _ (Nat.le_of_eq hlen), hlen, Nat.sub_self, en, List.replicate_succ, List.set_cons_zero, List.take_succ_eq_append_getElem lz]
      simp only [toI, List.map_append, List.map_cons, List.map_nil, List.append_assoc, List.cons_append, List.nil_append]
    rw [vedettelaw2_SumLinear.l0, if_pos g1, if_pos g0, if_pos ga, if_pos gb, if_pos gc, if_pos hll, hset, hw]
    exact hnext

theorem linear_end (a b c : ByteArray) (n : Nat) (hn : n ≤ 100) (ha : n ≤ a.size) (hb : n ≤ b.size) (hc : n ≤ c.size) (k : Nat) :
    vedettelaw2_SumLinear.l0 (k + 1) a b c (n : Int) (toI (z3 (a.data.toList.take n) (b.data.toList.take n) (c.data.toList.take n))) (n : Int) = some true := by
  have la : (a.data.toList.take n).length = n := by rw [List.length_take, ba_size]; omega
  have lb : (b.data.toList.take n).length = n := by rw [List.length_take, ba_size]; omega
  have lc : (c.data.toList.take n).length = n := by rw [List.length_take, ba_size]; omega
  have lz := z3_length _ _ _ (la.trans lb.symm) (lb.trans lc.symm)
  rw [la] at lz
  have hcz := crc_z3 _ _ _ (la.trans lb.symm) (lb.trans lc.symm)
  have ex : ∀ s : ByteArray, n ≤ s.size → sum_Of.f (s.extract 0 ((n : Nat) : Int).toNat) = some ((crc (s.data.toList.take n) : Nat) : Int) := by
    intro s hs
    have hz : (s.extract 0 ((n : Nat) : Int).toNat).data.toList = s.data.toList.take n := by rw [Lib.extract_data, Int.toNat_natCast]; simp
    have hsz : (s.extract 0 ((n : Nat) : Int).toNat).size = n := by rw [← ba_size, hz, List.length_take, ba_size]; omega
    rw [of_f _ (by rw [hsz]; omega), hz]
  have eo : sum_Of.f (strOfNums (toI (z3 (a.data.toList.take n) (b.data.toList.take n) (c.data.toList.take n)))) = some ((crc (z3 (a.data.toList.take n) (b.data.toList.take n) (c.data.toList.take n)) : Nat) : Int) := by
    rw [strOf_toI, of_f _ (by rw [bstr_size, lz]; omega), bstr_list]
  have g0 : ¬ (n : Int) < (n : Int) := by omega
  have g1 : 0 ≤ (n : Int) := by omega
  have ga : (n : Int) ≤ (a.size : Int) := by omega
  have gb : (n : Int) ≤ (b.size : Int) := by omega
  have gc : (n : Int) ≤ (c.size : Int) := by omega
  rw [vedettelaw2_SumLinear.l0, if_neg g0, eo]
  simp only [Option.bind_some]
  rw [if_pos g1, if_pos ga, ex a ha]
  simp only [Option.bind_some]
  rw [if_pos gb, ex b hb]
  simp only [Option.bind_some]
  rw [if_pos gc, ex c hc]
  simp only [Option.bind_some]
  rw [u32_xor_nat _ _ (crc_lt _) (crc_lt _), u32_xor_nat _ _ (xor_lt (crc_lt _) (crc_lt _)) (crc_lt _), hcz]
  simp

theorem linear_get (a b c : ByteArray) (n : Nat) (ha : n ≤ a.size) (hb : n ≤ b.size) (hc : n ≤ c.size) (i : Nat) (hi : i < n) (h : i < (z3 (a.data.toList.take n) (b.data.toList.take n) (c.data.toList.take n)).length) :
    Go.bits .xor .u8 (Go.bits .xor .u8 (bt a i) (bt b i)) (bt c i) = (((z3 (a.data.toList.take n) (b.data.toList.take n) (c.data.toList.take n))[i]).toNat : Int) := by
  have na : i < a.size := by omega
  have nb : i < b.size := by omega
  have nc : i < c.size := by omega
  have la : i < (a.data.toList.take n).length := by rw [List.length_take, ba_size]; omega
  have lb : i < (b.data.toList.take n).length := by rw [List.length_take, ba_size]; omega
  have lc : i < (c.data.toList.take n).length := by rw [List.length_take, ba_size]; omega
  rw [z3_get _ _ _ i la lb lc h, bt_get a i na, bt_get b i nb, bt_get c i nc, u8_xor_nat _ _ (UInt8.toNat_lt _) (UInt8.toNat_lt _), u8_xor_nat _ _ (Nat.xor_lt_two_pow (n := 8) (UInt8.toNat_lt _) (UInt8.toNat_lt _)) (UInt8.toNat_lt _), UInt8.toNat_xor, UInt8.toNat_xor]
  simp only [List.getElem_take]

theorem SumLinear : vedettelaw2_SumLinear.Pure := by
  intro a b c ha hb hc
  refine ⟨200, ?_⟩
  unfold vedettelaw2_SumLinear.f
  rw [sum_known_f 200 (by omega)]
  simp only [Option.bind_some, if_true]
  obtain ⟨n, hn, h1, h2, h3, h4⟩ : ∃ n : Nat, mn (mn (mn (a.size : Int) (b.size : Int)) (c.size : Int)) 100 = (n : Int) ∧ n ≤ 100 ∧ n ≤ a.size ∧ n ≤ b.size ∧ n ≤ c.size := by
    refine ⟨min (min (min a.size b.size) c.size) 100, ?_, by omega, by omega, by omega, by omega⟩
    unfold mn
    split <;> split <;> split <;> omega
  rw [hn, if_pos (by omega), if_pos (by omega)]
  have la : (a.data.toList.take n).length = n := by rw [List.length_take, ba_size]; omega
  have lb : (b.data.toList.take n).length = n := by rw [List.length_take, ba_size]; omega
  have lc : (c.data.toList.take n).length = n := by rw [List.length_take, ba_size]; omega
  have lz := (z3_length _ _ _ (la.trans lb.symm) (lb.trans lc.symm)).trans la
  have := linear_l0 a b c n h1 h2 h3 h4 _ lz (fun i h => linear_get a b c n h2 h3 h4 i (lz ▸ h) h) (fun k => linear_end a b c n h1 h2 h3 h4 k) n 200 0 (Nat.zero_add n) (Nat.lt_of_le_of_lt h1 (by decide))
  simp only [List.take_zero, Nat.sub_zero] at this
  rw [Int.toNat_natCast]
  exact this
end Go.Proofs.Ytikncpfppeiplaa.Pure
