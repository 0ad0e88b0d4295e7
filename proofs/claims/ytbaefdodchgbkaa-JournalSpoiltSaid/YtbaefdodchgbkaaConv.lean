/- '[]byte(s)' that is written into: what it reads as behind a store, that it may be written, what string(b) is. -/
import Derived.Test.YtbaefdodchgbkaaWWords
import Derived.Laws.World
namespace Go.Proofs.Ytbaefdodchgbkaa.Mine
open Go.RowKit Go.Proofs.YtbaefdodchgbkaaW.PrintWords

theorem reads_set {W : World} {g n : Nat} {xs : List Int} (h : ReadsInt W .u8 (some ⟨g, 0, none⟩) n xs) (q : Nat) (hq : q < n) (v : Int) : ReadsInt (W.setCell ⟨g, q, none⟩ (.int .u8 v)) .u8 (some ⟨g, 0, none⟩) n (xs.set q v) := by
  obtain ⟨h1, h2, h3⟩ := h
  refine ⟨by rw [List.length_set]; exact h1, h2, fun hn => ?_⟩
  obtain ⟨ad, had, hc⟩ := h3 hn
  cases had
  refine ⟨_, rfl, fun j hj => ?_⟩
  have hcj := hc j hj
  have hcq := hc q hq
  rw [add_plain] at hcj hcq ⊢
  by_cases e : j = q
  · subst e
    rw [World.cell?_setCell_same _ _ _ hcq]
    simp [List.getD_eq_getElem?_getD, h1, hj]
  · rw [World.cell?_setCell_other _ _ _ _ (fun h : (⟨g, q, none⟩ : Addr) = ⟨g, j, none⟩ => e (by injection h with _ h2 _; exact h2.symm)), hcj]
    simp only [List.getD_eq_getElem?_getD, List.getElem?_set_ne (Ne.symm e)]

theorem conv_cell (W : World) (e : TypeId) (s : ByteArray) (q : Nat) (hq : q < s.size) (hs : s.size ≤ 9223372036854775807) : (Lib.bytesWorld W e s).cell? ⟨W.heap.size, q, none⟩ = some (.int .u8 (bt s q)) := by
  obtain ⟨ad, had, hce⟩ := (bytes_reads W e s hs).at_ (q : Int) (by omega) (by omega)
  cases had
  rw [rd_bytesOf, add_plain] at hce
  exact hce
theorem conv_frozen (W : World) (e : TypeId) (s : ByteArray) (q : Nat) (hq : q < s.size) : (Lib.bytesWorld W e s).frozen? ⟨W.heap.size, q, none⟩ = false := by
  have hz : s.size ≤ (Lib.bytesCells W e s).size := by simp [Lib.bytesCells, Array.size_append]
  simp [World.frozen?, Lib.bytesWorld_at_new]
  omega
theorem conv_put (W : World) (e src dst : TypeId) {P : Program} (hs : P.underlying src = some (.slice e)) (he : P.underlying e = some (.int .u8)) (hd : P.underlying dst = some .string) (s : ByteArray) (hz : s.size ≤ 9223372036854775807) (q : Nat) (hq : q < s.size) (v : Int) (c : Nat) :
    (convert src dst (.slice (some ⟨W.heap.size, 0, none⟩) s.size c)).run P ((Lib.bytesWorld W e s).setCell ⟨W.heap.size, q, none⟩ (.int .u8 v)) = .ok (.string (strOfNums ((bytesOf s).set q v))) ((Lib.bytesWorld W e s).setCell ⟨W.heap.size, q, none⟩ (.int .u8 v)) :=
  string_of_reads hs he hd (reads_set (bytes_reads W e s hz) q hq v)
theorem conv_put2 (W : World) (e src dst : TypeId) {P : Program} (hs : P.underlying src = some (.slice e)) (he : P.underlying e = some (.int .u8)) (hd : P.underlying dst = some .string) (s : ByteArray) (hz : s.size ≤ 9223372036854775807) (q p : Nat) (hq : q < s.size) (hp : p < s.size) (v u : Int) (c : Nat) :
    (convert src dst (.slice (some ⟨W.heap.size, 0, none⟩) s.size c)).run P (((Lib.bytesWorld W e s).setCell ⟨W.heap.size, q, none⟩ (.int .u8 v)).setCell ⟨W.heap.size, p, none⟩ (.int .u8 u)) = .ok (.string (strOfNums (((bytesOf s).set q v).set p u))) (((Lib.bytesWorld W e s).setCell ⟨W.heap.size, q, none⟩ (.int .u8 v)).setCell ⟨W.heap.size, p, none⟩ (.int .u8 u)) :=
  string_of_reads hs he hd (reads_set (reads_set (bytes_reads W e s hz) q hq v) p hp u)
theorem below_conv {B : Nat} {w W : World} (h : Below B w W) (hB : B ≤ W.heap.size) (e : TypeId) (s : ByteArray) (q : Nat) (v : Value) : Below B w ((Lib.bytesWorld W e s).setCell ⟨W.heap.size, q, none⟩ v) :=
  (bytes_below h hB e s).setCell hB v
end Go.Proofs.Ytbaefdodchgbkaa.Mine
