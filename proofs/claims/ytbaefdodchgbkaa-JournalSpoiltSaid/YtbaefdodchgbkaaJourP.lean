/- What Scan tells of bytes, told by plain lists: the program's and the document's are one. -/
import Derived.Test.YtbaefdodchgbkaaSumC
import Derived.Test.YtbaefdodchgbkaaSumD
import Derived.Test.YtbaefdodchgbkaaPrint2
import Derived.Test.YtbaefdodchgbkaaPrint4
namespace Go.Proofs.Ytbaefdodchgbkaa.Num
open Go.RowKit Go.Proofs.YtbaefdodchgbkaaW.PrintWords Go.Proofs.YtbaefdodchgbkaaW.PrintMore Go.Proofs.Ytbaefdodchgbkaa.Print
set_option linter.unusedVariables false
set_option linter.unusedSimpArgs false

/-- What a text's bytes are, of whatever was read as a text. -/
theorem texts_parts (s : List UInt8) (most : Int) (h : (texts (bstr s) most).2.2 = 0) :
    ∃ t tail : List UInt8, s = enc t.length ++ t ++ tail ∧ (t.length : Int) ≤ mx most 0 ∧ texts (bstr s) most = (bstr t, ((enc t.length).length : Int) + t.length, 0) := by
  unfold texts at h ⊢
  obtain ⟨u, n, e, hd⟩ : ∃ u n e, dec s 0 0 = (u, n, e) := ⟨_, _, _, rfl⟩
  have hr := dec0_range hd
  rw [bstr_list, hd] at h ⊢
  dsimp only at h ⊢
  by_cases he : e = 0
  · rw [if_pos he] at h ⊢
    by_cases h1 : u > mx most 0
    · rw [if_pos h1] at h; exact absurd h (by decide)
    · rw [if_neg h1] at h ⊢
      by_cases h2 : u > ((bstr s).size : Int) - n
      · rw [if_pos h2] at h; exact absurd h (by decide)
      · rw [if_neg h2]
        rw [bstr_size] at h2
        subst he
        obtain ⟨v, hu, hv, _⟩ := dec_canon s 0 0 u n (by omega) (by simp) hd
        have hr2 : 0 ≤ u ∧ 1 ≤ n ∧ n ≤ (s.length : Int) := by
          rcases hr with ⟨_, a, b, c, d⟩ | ⟨_, _, r⟩
          · exact ⟨a, c, d⟩
          · omega
        simp only [Nat.mul_zero, Nat.pow_zero, Nat.mul_one, Nat.zero_add, Nat.sub_zero] at hu hv
        have hs : s = enc v ++ s.drop n.toNat := by rw [← hv, List.take_append_drop]
        have hen : (enc v).length = n.toNat := by rw [← hv, List.length_take]; omega
        have hdl : (s.drop n.toNat).length = s.length - n.toNat := List.length_drop
        refine ⟨(s.drop n.toNat).take v, (s.drop n.toNat).drop v, ?_, ?_, ?_⟩
        · have hl : ((s.drop n.toNat).take v).length = v := by rw [List.length_take]; omega
          rw [hl, List.append_assoc, List.take_append_drop]
          exact hs
        · rw [List.length_take]; omega
        · have hl : ((s.drop n.toNat).take v).length = v := by rw [List.length_take]; omega
          rw [hl, hen]
          refine Prod.ext (ba_ext ?_) (Prod.ext ?_ rfl)
          · rw [Lib.extract_data, bstr_list, bstr_list]
            congr 1
            omega
          · dsimp only; omega
  · rw [if_neg he] at h; exact absurd h he

inductive Opn (s : List UInt8) : Prop
  | good (t tail : List UInt8) (h1 : t.length ≤ 40000) (h2 : s = frame t ++ tail) (h3 : opn (bstr s) = (bstr t, ((frame t).length : Int), 0))
  | spoilt (t c tail : List UInt8) (h1 : t.length ≤ 40000) (h2 : c.length = 4) (h3 : c ≠ tl (crc t)) (h4 : s = enc t.length ++ t ++ c ++ tail) (h5 : opn (bstr s) = (⟨#[]⟩, 0, 12))
  | bad (h1 : (opn (bstr s)).2.2 ≠ 0) (h2 : (opn (bstr s)).2.2 ≠ 12)
theorem opn_cases (s : List UInt8) : Opn s := by
  by_cases h : (texts (bstr s) 40000).2.2 = 0
  · obtain ⟨t, tail, hs, ht, he⟩ := texts_parts s 40000 h
    have hm : mx 40000 0 = 40000 := by decide
    rw [hm] at ht
    have hl : t.length ≤ 40000 := by omega
    by_cases h4 : tail.length < 4
    · refine .bad ?_ ?_
      all_goals
        unfold opn
        rw [he]
        dsimp only
        rw [if_pos rfl, if_pos (by rw [bstr_size, hs]; simp only [List.length_append]; omega)]
        decide
    · have hs2 : s = enc t.length ++ t ++ tail.take 4 ++ tail.drop 4 := by rw [List.append_assoc _ (tail.take 4), List.take_append_drop]; exact hs
      have hc : (tail.take 4).length = 4 := by rw [List.length_take]; omega
      have hp := opn_parts t (tail.take 4) (tail.drop 4) hl hc
      rw [← hs2] at hp
      by_cases hcc : tail.take 4 = tl (crc t)
      · rw [if_pos hcc] at hp
        refine .good t (tail.drop 4) hl ?_ ?_
        · unfold frame; rw [← hcc]; exact hs2
        · rw [hp]; unfold frame; rw [← hcc]
      · rw [if_neg hcc] at hp
        exact .spoilt t (tail.take 4) (tail.drop 4) hl hc hcc hs2 hp
  · refine .bad ?_ ?_
    · unfold opn; dsimp only; rw [if_neg h]; exact h
    · unfold opn
      dsimp only
      rw [if_neg h]
      dsimp only
      unfold texts
      obtain ⟨u, n, e, hd⟩ : ∃ u n e, dec s 0 0 = (u, n, e) := ⟨_, _, _, rfl⟩
      have hr := dec0_range hd
      rw [bstr_list, hd]
      dsimp only
      by_cases he : e = 0
      · rw [if_pos he]
        split
        · show (13 : Int) ≠ 12; decide
        · split
          · show (10 : Int) ≠ 12; decide
          · show (0 : Int) ≠ 12; decide
      · rw [if_neg he]; dsimp only; omega

/-- Is what is spoilt cut off by the end? -/
theorem last_cut (t c tail : List UInt8) (h1 : t.length ≤ 40000) (h2 : c.length = 4) (h3 : c ≠ tl (crc t)) : ((opn (bstr (enc t.length ++ t ++ c ++ tail).dropLast)).2.2 = 10) ↔ tail = [] := by
  rcases List.eq_nil_or_concat tail with rfl | ⟨r, x, rfl⟩
  · refine ⟨fun _ => rfl, fun _ => ?_⟩
    obtain ⟨c0, x, rfl⟩ : ∃ c0 x, c = c0 ++ [x] := by
      rcases List.eq_nil_or_concat c with rfl | ⟨r, x, hr⟩
      · simp at h2
      · exact ⟨r, x, by simpa using hr⟩
    have e : (enc t.length ++ t ++ (c0 ++ [x]) ++ []).dropLast = enc t.length ++ t ++ c0 := by
      rw [List.append_nil, ← List.append_assoc, List.dropLast_concat]
    have hl : c0.length = 3 := by simpa using h2
    have ht := texts_text t c0 40000 (by omega) (by rw [show mx 40000 0 = 40000 by decide]; omega)
    rw [e]
    unfold opn
    rw [ht]
    dsimp only
    rw [if_pos rfl, if_pos (by rw [bstr_size]; simp only [List.length_append]; omega)]
  · refine ⟨fun h => ?_, fun h => by simp at h⟩
    have e : (enc t.length ++ t ++ c ++ (r.concat x)).dropLast = enc t.length ++ t ++ c ++ r := by
      rw [List.concat_eq_append, ← List.append_assoc, List.dropLast_concat]
    rw [e, opn_parts t c r h1 h2, if_neg h3] at h
    exact absurd h (by decide)

/-! ### Scan -/
def scanF : Nat → List UInt8 → List ByteArray × Nat × Int
  | 0, _ => ([], 0, 0)
  | f + 1, l =>
    if l = [] then ([], 0, 0)
    else if (opn (bstr l)).2.2 = 12 then (if (opn (bstr l.dropLast)).2.2 = 10 then ([], 0, 0) else ([], 0, 24))
    else if (opn (bstr l)).2.2 = 0 then
      ((opn (bstr l)).1 :: (scanF f (l.drop (opn (bstr l)).2.1.toNat)).1, (opn (bstr l)).2.1.toNat + (scanF f (l.drop (opn (bstr l)).2.1.toNat)).2.1, (scanF f (l.drop (opn (bstr l)).2.1.toNat)).2.2)
    else ([], 0, 0)

theorem drop_ext (s : ByteArray) (n : Nat) : s.extract n s.size = bstr (s.data.toList.drop n) := ba_ext (by rw [Lib.extract_to_end]; rfl)
theorem frame_pos (l : List UInt8) : 5 ≤ (frame l).length := by have := frame_length l; have := enc_pos l.length; omega

theorem last_f (l : List UInt8) (h : l ≠ []) (hs : l.length ≤ 140737488355328) : journal_last.f (bstr l) = some ((opn (bstr l.dropLast)).2.2 == 10) := by
  have hp := List.length_pos_iff.2 h
  unfold journal_last.f
  rw [bstr_size, wrap64_of (by omega) (by omega), if_pos (by omega), if_pos (by omega)]
  have e : (bstr l).extract 0 ((l.length : Int) - 1).toNat = bstr l.dropLast := by
    refine ba_ext ?_
    rw [Lib.extract_data, bstr_list, bstr_list, List.dropLast_eq_take]
    simp only [List.drop_zero, Nat.sub_zero]
    congr 1
    omega
  rw [e, open_f _ (by rw [bstr_size, List.length_dropLast]; omega)]
  rfl

end Go.Proofs.Ytbaefdodchgbkaa.Num
