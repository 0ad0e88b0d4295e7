/- Scan, the program's and the document's: one and the same. -/
import Derived.Test.YtbaefdodchgbkaaJourP
namespace Go.Proofs.Ytbaefdodchgbkaa.Num
open Go.RowKit Go.Proofs.YtbaefdodchgbkaaW.PrintWords Go.Proofs.YtbaefdodchgbkaaW.PrintMore Go.Proofs.Ytbaefdodchgbkaa.Print
set_option linter.unusedVariables false
set_option linter.unusedSimpArgs false

theorem scan_l0 (s : ByteArray) (hs : s.size ≤ 1099511627776) : ∀ (f k at_ : Nat) (out : List ByteArray), s.size - at_ < f → at_ ≤ s.size → 2 * (s.size - at_) + 2 ≤ k → out.length + (s.size - at_) ≤ 1099511627776 →
    journal_Scan.l0 k s out (at_ : Int) = some (out ++ (scanF f (s.data.toList.drop at_)).1, (at_ : Int) + ((scanF f (s.data.toList.drop at_)).2.1 : Int), (scanF f (s.data.toList.drop at_)).2.2) := by
  intro f
  induction f with
  | zero => intro k at_ out h; omega
  | succ f ih =>
    intro k at_ out hf ha hk ho
    obtain ⟨k, rfl⟩ : ∃ m, k = m + 1 := ⟨k - 1, by omega⟩
    have hls := ba_size s
    have hdl : (s.data.toList.drop at_).length = s.size - at_ := by rw [List.length_drop, hls]
    simp only [journal_Scan.l0, scanF]
    by_cases hend : at_ = s.size
    · rw [if_neg (by omega), if_pos (by apply List.eq_nil_of_length_eq_zero; omega)]
      simp
    · have hne : s.data.toList.drop at_ ≠ [] := fun e => by rw [e] at hdl; simp at hdl; omega
      rw [if_pos (by omega), if_pos (by omega), if_pos (by omega), if_neg hne, Int.toNat_natCast, drop_ext, open_f _ (by rw [bstr_size]; omega)]
      simp only [Option.bind_some]
      obtain ⟨k, rfl⟩ : ∃ m, k = m + 1 := ⟨k - 1, by omega⟩
      generalize hr : s.data.toList.drop at_ = l at hne hdl ⊢
      have hO := opn_cases l
      by_cases h12 : (opn (bstr l)).2.2 = 12
      · rw [if_pos h12, if_pos h12, last_f l hne (by omega)]
        simp only [Option.bind_some, journal_Scan.j1]
        by_cases h10 : (opn (bstr l.dropLast)).2.2 = 10
        · rw [if_pos h10, h10, h12]
          simp
        · rw [if_neg h10]
          have e : ((opn (bstr l.dropLast)).2.2 == 10) = false := beq_eq_false_iff_ne.mpr h10
          rw [e]
          simp
      · rw [if_neg h12, if_neg h12]
        simp only [journal_Scan.j1, Bool.false_eq_true, if_false]
        by_cases h0 : (opn (bstr l)).2.2 = 0
        · rw [if_pos h0, if_pos h0, if_pos (by omega)]
          rcases hO with ⟨t, tail, h1, h2, h3⟩ | ⟨t, c, tail, h1, h2, h3, h4, h5⟩ | ⟨h1, h2⟩
          · have hfp := frame_pos t
            have hll : l.length = (frame t).length + tail.length := by rw [h2, List.length_append]
            generalize (frame t).length = fl at hfp hll h3
            clear h2 h0 h12
            rw [h3]
            dsimp only
            clear h3
            have hw : wrap64 ((at_ : Int) + (fl : Int)) = ((at_ + fl : Nat) : Int) := by rw [wrap64_of (by omega) (by omega)]; omega
            have g1 : s.size - (at_ + fl) < f := by clear ih hw; omega
            have g2 : at_ + fl ≤ s.size := by clear ih hw; omega
            have g3 : 2 * (s.size - (at_ + fl)) + 2 ≤ k := by clear ih hw; omega
            have g4 : (out ++ [bstr t]).length + (s.size - (at_ + fl)) ≤ 1099511627776 := by clear ih hw; simp only [List.length_append, List.length_cons, List.length_nil]; omega
            rw [hw, ih k (at_ + fl) (out ++ [bstr t]) g1 g2 g3 g4]
            rw [← List.drop_drop, hr, Int.toNat_natCast]
            simp only [List.append_assoc, List.singleton_append]
            congr 3
            clear hw
            omega
          · rw [h5] at h0; exact absurd (show (12 : Int) = 0 from h0) (by decide)
          · exact absurd h0 h1
        · rw [if_neg h0, if_neg h0]
          simp
theorem scan_f (s : ByteArray) (hs : s.size ≤ 1099511627776) (k : Nat) (hk : 2 * s.size + 2 ≤ k) :
    journal_Scan.f k s = some ((scanF (s.size + 1) s.data.toList).1, ((scanF (s.size + 1) s.data.toList).2.1 : Int), (scanF (s.size + 1) s.data.toList).2.2) := by
  unfold journal_Scan.f
  have := scan_l0 s hs (s.size + 1) k 0 [] (by omega) (by omega) (by omega) (by simp; omega)
  simpa using this

theorem ref_scan_l0 (s : ByteArray) (hs : s.size ≤ 1048576) : ∀ (f k at_ : Nat) (out : List ByteArray), s.size - at_ < f → at_ ≤ s.size → 11 * s.size + 12 + (s.size - at_) ≤ k → out.length + (s.size - at_) ≤ 1099511627776 →
    vedetteref20_Scan.l0 k s out (at_ : Int) = some (out ++ (scanF f (s.data.toList.drop at_)).1, (at_ : Int) + ((scanF f (s.data.toList.drop at_)).2.1 : Int), (scanF f (s.data.toList.drop at_)).2.2) := by
  intro f
  induction f with
  | zero => intro k at_ out h; omega
  | succ f ih =>
    intro k at_ out hf ha hk ho
    obtain ⟨k, rfl⟩ : ∃ m, k = m + 1 := ⟨k - 1, by omega⟩
    have hls := ba_size s
    have hdl : (s.data.toList.drop at_).length = s.size - at_ := by rw [List.length_drop, hls]
    simp only [vedetteref20_Scan.l0, scanF]
    by_cases hend : at_ = s.size
    · rw [if_neg (by omega), if_pos (by apply List.eq_nil_of_length_eq_zero; omega)]
      simp
    · have hne : s.data.toList.drop at_ ≠ [] := fun e => by rw [e] at hdl; simp at hdl; omega
      rw [if_pos (by omega), if_pos (by omega), if_pos (by omega), if_neg hne, Int.toNat_natCast, drop_ext, ref_open_f k _ (by rw [bstr_size]; omega) (by rw [bstr_size]; omega)]
      simp only [Option.bind_some]
      generalize hr : s.data.toList.drop at_ = l at hne hdl ⊢
      have hO := opn_cases l
      by_cases h12 : (opn (bstr l)).2.2 = 12
      · rw [if_pos h12, if_pos h12, ref_texts_f (bstr l) 1099511627776 k (by rw [bstr_size]; omega) (by rw [bstr_size]; omega) (by omega) (by omega)]
        simp only [Option.bind_some]
        rcases hO with ⟨t, tail, h1, h2, h3⟩ | ⟨t, c, tail, h1, h2, h3, h4, h5⟩ | ⟨h1, h2⟩
        · rw [h3] at h12; exact absurd (show (0 : Int) = 12 from h12) (by decide)
        · obtain ⟨k, rfl⟩ : ∃ m, k = m + 1 := ⟨k - 1, by omega⟩
          have ht := texts_text t (c ++ tail) 1099511627776 (by omega) (by rw [show mx 1099511627776 0 = 1099511627776 by decide]; omega)
          rw [← List.append_assoc, ← h4] at ht
          have hlc := last_cut t c tail h1 h2 h3
          rw [← h4] at hlc
          have hll : l.length = (enc t.length).length + t.length + 4 + tail.length := by rw [h4]; simp only [List.length_append]; omega
          rw [ht]
          dsimp only
          rw [if_pos (by rw [bstr_size]; omega), wrap64_of (x := (at_ : Int) + _) (by omega) (by omega), wrap64_of (by omega) (by omega)]
          simp only [vedetteref20_Scan.j1]
          by_cases htn : tail = []
          · rw [if_pos (hlc.2 htn)]
            have : ((at_ : Int) + (((enc t.length).length : Int) + (t.length : Int)) + 4 == (s.size : Int)) = true := by
              rw [beq_iff_eq, ]; rw [htn] at hll; simp only [List.length_nil] at hll; omega
            rw [this]
            simp
          · rw [if_neg (fun h => htn (hlc.1 h))]
            have hp := List.length_pos_iff.2 htn
            have : ((at_ : Int) + (((enc t.length).length : Int) + (t.length : Int)) + 4 == (s.size : Int)) = false := by
              rw [beq_eq_false_iff_ne]; omega
            rw [this]
            simp
        · exact absurd h12 h2
      · rw [if_neg h12, if_neg h12]
        by_cases h0 : (opn (bstr l)).2.2 = 0
        · rw [if_pos h0, if_pos h0, if_pos (by omega)]
          rcases hO with ⟨t, tail, h1, h2, h3⟩ | ⟨t, c, tail, h1, h2, h3, h4, h5⟩ | ⟨h1, h2⟩
          · have hfp := frame_pos t
            have hll : l.length = (frame t).length + tail.length := by rw [h2, List.length_append]
            generalize (frame t).length = fl at hfp hll h3
            clear h2 h0 h12
            rw [h3]
            dsimp only
            clear h3
            have hw : wrap64 ((at_ : Int) + (fl : Int)) = ((at_ + fl : Nat) : Int) := by rw [wrap64_of (by omega) (by omega)]; omega
            have g1 : s.size - (at_ + fl) < f := by clear ih hw; omega
            have g2 : at_ + fl ≤ s.size := by clear ih hw; omega
            have g3 : 11 * s.size + 12 + (s.size - (at_ + fl)) ≤ k := by clear ih hw; omega
            have g4 : (out ++ [bstr t]).length + (s.size - (at_ + fl)) ≤ 1099511627776 := by clear ih hw; simp only [List.length_append, List.length_cons, List.length_nil]; omega
            rw [hw, ih k (at_ + fl) (out ++ [bstr t]) g1 g2 g3 g4]
            rw [← List.drop_drop, hr, Int.toNat_natCast]
            simp only [List.append_assoc, List.singleton_append]
            congr 3
            clear hw
            omega
          · rw [h5] at h0; exact absurd (show (12 : Int) = 0 from h0) (by decide)
          · exact absurd h0 h1
        · rw [if_neg h0, if_neg h0]
          simp
theorem ref_scan_f (s : ByteArray) (hs : s.size ≤ 1048576) (k : Nat) (hk : 12 * s.size + 12 ≤ k) :
    vedetteref20_Scan.f k s = some ((scanF (s.size + 1) s.data.toList).1, ((scanF (s.size + 1) s.data.toList).2.1 : Int), (scanF (s.size + 1) s.data.toList).2.2) := by
  unfold vedetteref20_Scan.f
  have := ref_scan_l0 s hs (s.size + 1) k 0 [] (by omega) (by omega) (by omega) (by simp; omega)
  simpa using this

end Go.Proofs.Ytbaefdodchgbkaa.Num
