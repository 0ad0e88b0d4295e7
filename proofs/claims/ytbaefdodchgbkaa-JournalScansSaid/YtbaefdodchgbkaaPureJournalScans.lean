/- Scan tells what the document's Scan tells, of every bytes: the plain law of JournalScans. -/
import Derived.Test.YtbaefdodchgbkaaWalkJournalScans
namespace Go.Proofs.Ytbaefdodchgbkaa.Pure
open Go.Proofs.Ytbaefdodchgbkaa.Print Go.Proofs.Ytbaefdodchgbkaa.Dk Go.Proofs.Ytbaefdodchgbkaa.Num Go.Proofs.YtbaefdodchgbkaaW.PrintWords

theorem scanF_len : ∀ (f : Nat) (l : List UInt8), (scanF f l).1.length ≤ f
  | 0, _ => by simp [scanF]
  | f + 1, l => by
    simp only [scanF]
    split
    · simp
    · split
      · split <;> simp
      · split
        · simp only [List.length_cons]
          have := scanF_len f (l.drop (opn (bstr l)).2.1.toNat)
          omega
        · simp

theorem JournalScans : vedettelaw21_JournalScans.Pure := by
  refine ⟨fun s hs => ⟨12 * s.size + 12, ?_⟩, fun l hz hl => ?_⟩
  · unfold vedettelaw21_scans.f
    rw [scan_f s (by omega) _ (by omega), ref_scan_f s hs _ (by omega)]
    simp only [Option.bind_some]
    have hlen := scanF_len (s.size + 1) s.data.toList
    generalize scanF (s.size + 1) s.data.toList = X at hlen ⊢
    obtain ⟨r, hr, h⟩ := same_f X.1 X.1 (by omega)
    obtain rfl : true = r := (h rfl).symm
    rw [at_rounds (g := fun k => vedettelaw21_same.f k X.1 X.1) (fun k => vedettelaw21_same.mono X.1 X.1 k) (show X.1.length + 1 ≤ 12 * s.size + 12 by omega) hr]
    simp
  · have hfl := Fr_le l hz
    have := scan_f2 (Fr l) (by omega) (scan_all l hz)
    exact ⟨_, by rw [bstr_size]; exact this⟩

end Go.Proofs.Ytbaefdodchgbkaa.Pure
