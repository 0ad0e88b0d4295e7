/- Behind a loss of power: what Open tells of what stayed. -/
import Derived.Test.YtbaefdodchgbkaaJourB
namespace Go.Proofs.Ytbaefdodchgbkaa.Dk
open Go.RowKit Go.Maps Go.Proofs.YtbaefdodchgbkaaW.PrintWords Go.Proofs.YtbaefdodchgbkaaW.PrintLast Go.Proofs.YtbaefdodchgbkaaW.PrintMore Go.Proofs.Ytbaefdodchgbkaa.Print Go.Proofs.Ytbaefdodchgbkaa.Num
set_option linter.unusedVariables false
set_option linter.unusedSimpArgs false

theorem S.sm {ko no : Option ByteArray} {kn nn : Nat} {l : List (ByteArray × Bool)} {steps left room : Int}
    (h : 0 ≤ steps ∧ steps ≤ 1000 ∧ -1 ≤ left ∧ left ≤ 1000 ∧ nn ≤ 1000 ∧ kn ≤ 1000 ∧ l.length ≤ 1000 ∧ 0 ≤ room ∧ room ≤ 1000000) (hc : (no.getD ByteArray.empty).size ≤ 100000) : (⟨ko, no, kn, nn, l, steps, left⟩ : S).Sm room := by
  obtain ⟨h1, h2, h3, h4, h5, h6, h7, h9, h10⟩ := h
  exact ⟨h1, h2, h3, h4, h5, h6, h7, hc, h9, h10⟩
theorem dn_le {x : Int} (h : -1 ≤ x ∧ x ≤ 1000) : -1 ≤ dn x ∧ dn x ≤ 1000 := by unfold dn; split <;> omega
theorem crash_opens {s : S} (keep : Int) (hk0 : 0 ≤ keep) (hk1 : keep ≤ 18446744073709551615) (hs : s.Sm 100000) (h1 : s.steps ≤ 100 ∧ s.nn ≤ 100 ∧ s.kn ≤ 100 ∧ s.l.length ≤ 100)
    (hz : (s.ko.getD ByteArray.empty).size + sumS s.l ≤ 50000) (c : List ByteArray) (tail : List UInt8) (hc : ∀ t ∈ c, t.size ≤ 200) (ht : scan tail = ([], 0, 0))
    (hcur : (play keep 0 s.ko false s.l).getD ByteArray.empty = bstr (Fr c ++ tail)) :
    ∃ s4 s5 : S, Does 100000 20 (fun g => #[.pointer (some ⟨g, 0, none⟩), .int .u64 keep]) (.tuple #[]) s s4 ∧ Opens 100000 c s4 s5 ∧ s5.left = -1 ∧ s5.cur = bstr (Fr c) ∧ s5.Sm 100000 ∧ s5.steps ≤ 300 ∧ s5.nn ≤ 300 ∧ s5.kn ≤ 300 ∧ s5.l.length ≤ 300 := by
  have hps := play_size keep s.l 0 s.ko false
  have q4 : Does 100000 20 (fun g => #[.pointer (some ⟨g, 0, none⟩), .int .u64 keep]) (.tuple #[]) s (s.cr keep) := o_crash hs.ok keep hk0 hk1 (by omega) rfl
  have c4 : (s.cr keep).cur = bstr (Fr c ++ tail) := hcur
  have z4 : (s.cr keep).cur.size ≤ 50000 := by show ((play keep 0 s.ko false s.l).getD ByteArray.empty).size ≤ _; omega
  obtain ⟨h2, h3, h4, h5⟩ := h1
  have hs0 := hs.s0
  have sm4 : (s.cr keep).Sm 100000 := by
    refine ⟨?_, ?_, ?_, ?_, ?_, ?_, ?_, by omega, by decide, by decide⟩
    · show 0 ≤ s.steps; omega
    · show s.steps ≤ _; omega
    · show (-1 : Int) ≤ -1; omega
    · show (-1 : Int) ≤ 1000; omega
    · show s.kn + s.l.length ≤ _; omega
    · show s.kn + s.l.length ≤ _; omega
    · show 0 ≤ _; omega
  have hsc := scan_Fr c tail hc
  rw [ht] at hsc
  simp only [List.append_nil, Nat.add_zero] at hsc
  rw [c4, bstr_size, List.length_append] at z4
  obtain ⟨s5, q5, l5, c5, p1, p2, p3, p4, p5⟩ := opens_of sm4 rfl (by rw [c4, bstr_size, List.length_append]; omega) (l := c) (n := (Fr c).length) (by rw [c4, bstr_list]; exact hsc) (by rw [c4, bstr_size, List.length_append]; omega)
  rw [c4, bstr_list, List.take_left] at c5
  have b1 : s5.steps ≤ s.steps + 2 := p2
  have b2 : s5.nn ≤ s.kn + s.l.length + 1 := p3
  have b3 : s5.kn ≤ s.kn + s.l.length + 1 := p4
  have b4 : s5.l.length ≤ 0 := p5
  exact ⟨_, s5, q4, q5, l5, c5, ⟨p1, by omega, by omega, by omega, by omega, by omega, by omega, by rw [c5, bstr_size]; omega, by decide, by decide⟩, by omega, by omega, by omega, by omega⟩

end Go.Proofs.Ytbaefdodchgbkaa.Dk
