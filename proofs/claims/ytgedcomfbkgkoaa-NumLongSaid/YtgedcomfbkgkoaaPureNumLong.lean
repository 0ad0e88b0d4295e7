/- NumLong: of as many bstr 255 and a last one the number is read, or what is wrong, as the law says. For every input. -/
import Derived.Test.YtgedcomfbkgkoaaPrint4
import Derived.Test.YtgedcomfbkgkoaaNumB
import Derived.Test.YtgedcomfbkgkoaaNumE
namespace Go.Proofs.Ytgedcomfbkgkoaa.Pure
open Go.RowKit Go.Proofs.Ytgedcomfbkgkoaa.Print Go.Proofs.YtgedcomfbkgkoaaW.PrintWords Go.Proofs.YtgedcomfbkgkoaaW.PrintLast Go.Proofs.Ytgedcomfbkgkoaa.Num

theorem long_dec : ∀ (k : Fin 12) (c : Fin 128), dec (List.replicate k.val 255 ++ [UInt8.ofNat c.val]) 0 0 =
    if (k.val > 9 ∨ (k.val = 9 ∧ c.val > 1)) ∨ (k.val > 0 ∧ c.val = 0) then (0, 0, 11) else ((dec (List.replicate k.val 255 ++ [UInt8.ofNat c.val]) 0 0).1, (k.val : Int) + 1, 0) := by decide +kernel

theorem long_l0 (x : Int) (h0 : 0 ≤ x) (h1 : x < 256) (n : Nat) (hn : n < 12) : ∀ (d k i : Nat), i + d = n → d < k →
    vedettelaw1_NumLong.l0 k x n (List.replicate i 255) i = some true := by
  intro d
  induction d with
  | zero =>
    intro k i hi hk
    obtain ⟨k, rfl⟩ : ∃ m, k = m + 1 := ⟨k - 1, by omega⟩
    obtain rfl : i = n := by omega
    have hm := u8_and127 x h0 h1
    have es : strOfNums (List.replicate i 255 ++ [x % 128]) = bstr (List.replicate i 255 ++ [UInt8.ofNat (x % 128).toNat]) := by
      rw [strOfNums_eq]
      simp [bstr]
    have hd := long_dec ⟨i, hn⟩ ⟨(x % 128).toNat, by omega⟩
    simp only at hd
    simp only [vedettelaw1_NumLong.l0]
    rw [if_neg (by omega), if_pos (by rw [List.length_replicate]; omega), hm, es, get_f _ (by rw [bstr_size]; simp; omega), bstr_list]
    simp only [Option.bind_some]
    have ew : wrap64 ((i : Int) + 1) = (i : Int) + 1 := wrap64_of (by omega) (by omega)
    rw [ew]
    generalize (dec (List.replicate i 255 ++ [UInt8.ofNat (x % 128).toNat]) 0 0).1 = u at hd
    generalize dec (List.replicate i 255 ++ [UInt8.ofNat (x % 128).toNat]) 0 0 = D at hd
    have hc0 : 0 ≤ x % 128 := by omega
    generalize x % 128 = c at *
    by_cases hP : (i > 9 ∨ (i = 9 ∧ c.toNat > 1)) ∨ (i > 0 ∧ c.toNat = 0)
    · rw [if_pos hP] at hd
      subst hd
      by_cases h9 : i > 9
      · rw [if_pos (by omega)]; simp
      · rw [if_neg (by omega)]
        by_cases e9 : i = 9
        · rw [if_pos (by omega)]
          by_cases hc : c > 1
          · rw [if_pos (by omega)]; simp
          · rw [if_neg (by omega), if_pos (by omega), if_pos (by omega)]; simp
        · rw [if_neg (by omega), if_pos (by omega), if_pos (by omega)]; simp
    · rw [if_neg hP] at hd
      subst hd
      rw [if_neg (by omega)]
      by_cases e9 : i = 9
      · rw [if_pos (by omega), if_neg (by omega), if_pos (by omega), if_neg (by omega)]; simp
      · rw [if_neg (by omega)]
        by_cases hp : i > 0
        · rw [if_pos (by omega), if_neg (by omega)]; simp
        · rw [if_neg (by omega)]; simp
  | succ d ih =>
    intro k i hi hk
    obtain ⟨k, rfl⟩ : ∃ m, k = m + 1 := ⟨k - 1, by omega⟩
    simp only [vedettelaw1_NumLong.l0]
    rw [if_pos (by omega), if_pos (by rw [List.length_replicate]; omega), wrap64_of (by omega) (by omega)]
    have e : (List.replicate i (255 : Int) ++ [255]) = List.replicate (i + 1) 255 := by rw [List.replicate_succ']
    rw [e]
    exact ih k (i + 1) (by omega) (by omega)

theorem NumLong : vedettelaw1_NumLong.Pure := by
  intro a b ha hb
  have ha := wf_u8 ha
  have hb := wf_u8 hb
  refine ⟨100, ?_⟩
  unfold vedettelaw1_NumLong.f
  rw [known_f 100 (by omega)]
  simp only [Option.bind_some, if_true]
  have e : wrap64 (Int.tmod b 12) = ((b.toNat % 12 : Nat) : Int) := by
    have : Int.tmod b 12 = b % 12 := Int.tmod_eq_emod_of_nonneg hb.1
    rw [this, wrap64_of (by omega) (by omega)]
    omega
  rw [e]
  exact long_l0 a ha.1 ha.2 (b.toNat % 12) (by omega) (b.toNat % 12) 100 0 (by omega) (by omega)
end Go.Proofs.Ytgedcomfbkgkoaa.Pure
