/- A record in the middle of which a byte isn't what was written is told: the plain law of JournalSpoilt. -/
import Derived.Test.YtbaefdodchgbkaaWalkJournalSpoilt
namespace Go.Proofs.Ytbaefdodchgbkaa.Pure
open Go.Proofs.Ytbaefdodchgbkaa.Print Go.Proofs.Ytbaefdodchgbkaa.Dk Go.Proofs.Ytbaefdodchgbkaa.Num

theorem Fr_ne (l : List ByteArray) (h : 0 < l.length) : Fr l ≠ [] := by
  cases l with
  | nil => simp at h
  | cons t r =>
    intro e
    have hp := frame_pos t.data.toList
    have := congrArg List.length e
    simp only [Fr, List.length_append, List.length_nil] at this
    omega
theorem JournalSpoilt : vedettelaw21_JournalSpoilt.Pure := by
  intro l k j v hz hl hk hk2 hj1 hj hv
  have hz2 : ∀ t ∈ l, t.size ≤ 200 := fun t ht => Nat.le_trans (hz t ht) (by decide)
  have hzk := hz l[k] (List.getElem_mem hk)
  have hbs := ba_size l[k]
  have he : enc l[k].data.toList.length = [UInt8.ofNat l[k].data.toList.length] := enc_small (by omega)
  have he1 : (enc l[k].data.toList.length).length = 1 := by rw [he]; rfl
  unfold Sp
  rw [if_neg (by omega), List.take_length, List.getD_eq_getElem?_getD, List.getElem?_eq_getElem hk, Option.getD_some, List.append_assoc]
  have hrest : Fr (l.drop (k + 1)) ≠ [] := Fr_ne _ (by rw [List.length_drop]; omega)
  generalize Fr (l.drop (k + 1)) = rest at hrest
  have h12 := fun tail => opn_set l[k].data.toList tail (by omega) j (by omega) hj v hv
  have hs : scan ((frame l[k].data.toList).set j v ++ rest) = ([], 0, 24) := by
    have hne : (frame l[k].data.toList).set j v ++ rest ≠ [] := fun e => hrest (List.append_eq_nil_iff.1 e).2
    have hdl : ((frame l[k].data.toList).set j v ++ rest).dropLast = (frame l[k].data.toList).set j v ++ rest.dropLast := List.dropLast_append_of_ne_nil hrest
    unfold scan
    rw [scanF.eq_def]
    simp only
    rw [if_neg hne, hdl, h12 rest, h12 rest.dropLast, if_pos rfl, if_neg (by decide)]
  rw [scan_Fr (l.take k) _ (fun t ht => hz2 t (List.mem_of_mem_take ht)), hs]
  simp

end Go.Proofs.Ytbaefdodchgbkaa.Pure
