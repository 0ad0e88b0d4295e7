/- Written anew it is the old one or the new one: the plain law of JournalRenews. -/
import Derived.Test.YtbaefdodchgbkaaWalkJournalRenews
import Derived.Test.YtbaefdodchgbkaaJourC
namespace Go.Proofs.Ytbaefdodchgbkaa.Pure
open Go.Proofs.Ytbaefdodchgbkaa.Print Go.Proofs.Ytbaefdodchgbkaa.Dk Go.Proofs.Ytbaefdodchgbkaa.Num

theorem JournalRenews : vedettelaw21_JournalRenews.Pure := by
  intro a b k keep hk4 ha hza hb hzb hk0 hk1
  have hza2 : ∀ t ∈ a, t.size ≤ 200 := fun t ht => Nat.le_trans (hza t ht) (by decide)
  have hzb2 : ∀ t ∈ b, t.size ≤ 200 := fun t ht => Nat.le_trans (hzb t ht) (by decide)
  have fa := Fr_le a hza2
  have fb := Fr_le b hzb2
  have sa : (bstr (Fr a)).size ≤ 2140 := by rw [bstr_size]; omega
  have sb : (bstr (Fr b)).size ≤ 2140 := by rw [bstr_size]; omega
  obtain ⟨s0, e0⟩ : ∃ s, s = (⟨none, none, 0, 0, [], 0, -1⟩ : S) := ⟨_, rfl⟩
  have m0 : s0.Sm 100000 := by rw [e0]; exact ⟨by decide, by decide, by decide, by decide, by decide, by decide, by decide, by decide, by decide, by decide⟩
  have q1 : Renews 100000 a 0 s0 ⟨some (bstr (Fr a)), some (bstr (Fr a)), 1, 1, [], 2, -1⟩ :=
    renews_of m0 a (by omega) hza2 (by rw [jput_ok (by rw [e0]; decide) (by rw [e0]; decide) (by omega), e0]; rfl) (by omega)
  obtain ⟨s2, e2⟩ : ∃ s, s = (⟨some (bstr (Fr a)), some (bstr (Fr a)), 1, 1, [], 2, (k : Int)⟩ : S) := ⟨_, rfl⟩
  have q2 : Does 100000 19 (fun g => #[.pointer (some ⟨g, 0, none⟩), .int .i64 (k : Int)]) (.tuple #[]) ⟨some (bstr (Fr a)), some (bstr (Fr a)), 1, 1, [], 2, -1⟩ s2 := o_limit (k : Int) (by omega) e2.symm
  have m2 : s2.Sm 100000 := by
    rw [e2]
    exact S.sm ⟨by decide, by decide, by omega, by omega, by decide, by decide, by decide, by decide, by decide⟩ (by show (bstr (Fr a)).size ≤ _; omega)
  have l2 : s2.left = (k : Int) := by rw [e2]
  rcases (show k = 0 ∨ k = 1 ∨ 2 ≤ k by omega) with rfl | rfl | hk
  · have q3 : Renews 100000 b 22 s2 s2 := renews_of m2 b (by omega) hzb2 (jput_off l2) (by omega)
    obtain ⟨s4, s5, q4, q5, _⟩ := crash_opens keep hk0 hk1 m2 (by rw [e2]; exact ⟨show (2 : Int) ≤ 100 by decide, show (1 : Nat) ≤ 100 by decide, show (1 : Nat) ≤ 100 by decide, show (0 : Nat) ≤ 100 by decide⟩) (by rw [e2]; show (bstr (Fr a)).size + 0 ≤ _; omega) a [] hza2 scan_nil (by rw [e2, List.append_nil]; rfl)
    exact ⟨s0, _, s2, s2, s4, s5, 22, a, e0, q1, q2, q3, q4, q5, .inr ⟨rfl, .inl rfl⟩⟩
  · have q3 : Renews 100000 b 22 s2 (s2.wr (bstr (Fr b)) (bstr (Fr b), true)) := renews_of m2 b (by omega) hzb2 (jput_one l2 (by omega)) (by omega)
    have m3 : (s2.wr (bstr (Fr b)) (bstr (Fr b), true)).Sm 100000 := by
      rw [e2]
      exact S.sm (ko := some (bstr (Fr a))) (no := some (bstr (Fr b))) (kn := 1) (nn := 2) (l := [(bstr (Fr b), true)]) (steps := 3) (left := 0) ⟨by decide, by decide, by decide, by decide, by decide, by decide, by simp, by decide, by decide⟩ (by show (bstr (Fr b)).size ≤ _; omega)
    have hp : play keep 0 (some (bstr (Fr a))) false [(bstr (Fr b), true)] = some (bstr (Fr (if bitOf keep 0 then b else a))) := by
      cases h : bitOf keep 0 <;> simp [play, play1, h]
    obtain ⟨s4, s5, q4, q5, _⟩ := crash_opens keep hk0 hk1 m3 (by rw [e2]; exact ⟨show (3 : Int) ≤ 100 by decide, show (2 : Nat) ≤ 100 by decide, show (1 : Nat) ≤ 100 by decide, show (1 : Nat) ≤ 100 by decide⟩) (by rw [e2]; show (bstr (Fr a)).size + ((bstr (Fr b)).size + 0) ≤ _; omega) (if bitOf keep 0 then b else a) [] (by split <;> assumption) scan_nil (by
        rw [e2, List.append_nil]
        show (play keep 0 (some (bstr (Fr a))) false [(bstr (Fr b), true)]).getD _ = _
        rw [hp]; rfl)
    refine ⟨s0, _, s2, _, s4, s5, 22, _, e0, q1, q2, q3, q4, q5, .inr ⟨rfl, ?_⟩⟩
    split
    · exact .inr rfl
    · exact .inl rfl
  · have q3 : Renews 100000 b 0 s2 (s2.all (bstr (Fr b))) := renews_of m2 b (by omega) hzb2 (jput_ok (by omega) (by omega) (by omega)) (by omega)
    have m3 : (s2.all (bstr (Fr b))).Sm 100000 := by
      have hd : -1 ≤ dn (dn s2.left) ∧ dn (dn s2.left) ≤ 1000 := dn_le (dn_le (by omega))
      rw [e2] at hd ⊢
      exact S.sm (ko := some (bstr (Fr b))) (no := some (bstr (Fr b))) (kn := 2) (nn := 2) (l := []) (steps := 4) ⟨by decide, by decide, hd.1, hd.2, by decide, by decide, by decide, by decide, by decide⟩ (by show (bstr (Fr b)).size ≤ _; omega)
    obtain ⟨s4, s5, q4, q5, _⟩ := crash_opens keep hk0 hk1 m3 (by rw [e2]; exact ⟨show (4 : Int) ≤ 100 by decide, show (2 : Nat) ≤ 100 by decide, show (2 : Nat) ≤ 100 by decide, show (0 : Nat) ≤ 100 by decide⟩) (by show (bstr (Fr b)).size + 0 ≤ _; omega) b [] hzb2 scan_nil (by rw [List.append_nil]; rfl)
    exact ⟨s0, _, s2, _, s4, s5, 0, b, e0, q1, q2, q3, q4, q5, .inl ⟨rfl, rfl⟩⟩

end Go.Proofs.Ytbaefdodchgbkaa.Pure
