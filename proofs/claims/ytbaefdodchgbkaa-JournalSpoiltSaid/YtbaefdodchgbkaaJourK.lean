/- known: what its calls answer. -/
import Derived.Test.YtbaefdodchgbkaaJourB
namespace Go.Proofs.Ytbaefdodchgbkaa.Dk
open Go.RowKit Go.Maps Go.Proofs.YtbaefdodchgbkaaW.PrintWords Go.Proofs.YtbaefdodchgbkaaW.PrintLast Go.Proofs.YtbaefdodchgbkaaW.PrintMore Go.Proofs.Ytbaefdodchgbkaa.Print Go.Proofs.Ytbaefdodchgbkaa.Num
set_option linter.unusedVariables false
set_option linter.unusedSimpArgs false

theorem Row.reads {N : Nat → Prop} {w : World} {v : Value} {l : List ByteArray} (h : Row N w v l) : ∃ A c, v = .slice A l.length c ∧ l.length ≤ c ∧ Kd.string.C w A l.length l := by
  obtain ⟨B, h⟩ := h
  exact Kd.R_reads h
theorem C_at {w : World} {A : Option Addr} {n : Nat} {l : List ByteArray} (h : Kd.string.C w A n l) (i : Nat) (hi : i < n) : ∃ ad, A = some ad ∧ w.cell? (ad.add i) = some (.string (l.getD i ByteArray.empty)) := by
  obtain ⟨ad, cs, e, hl, hk, hc⟩ := Kd.C_get h ByteArray.empty (i : Int) (by omega) (by omega)
  have hk2 : cs = [.string (l.getD i ByteArray.empty)] := hk
  have := hc 0 (.string (l.getD i ByteArray.empty)) (by rw [hk2]; rfl)
  rw [Int.toNat_natCast, show Kd.string.sz = 1 from rfl, Nat.mul_one, Nat.add_zero] at this
  exact ⟨ad, e, this⟩
theorem Row.ad {N : Nat → Prop} {w : World} {v : Value} {b : ByteArray} {r : List ByteArray} (h : Row N w v (b :: r)) : ∃ ad c, v = .slice (some ad) (r.length + 1) c := by
  obtain ⟨A, c, rfl, hc, hC⟩ := h.reads
  obtain ⟨ad, rfl, _⟩ := C_at hC 0 (by simp)
  exact ⟨ad, c, rfl⟩
theorem Row.cell {N : Nat → Prop} {w : World} {ad : Addr} {n c : Nat} {l : List ByteArray} (h : Row N w (.slice (some ad) n c) l) (i : Nat) (hi : i < l.length) : w.cell? (ad.add i) = some (.string l[i]) := by
  obtain ⟨A, c, e, hc, hC⟩ := h.reads
  cases e
  obtain ⟨ad, e, h⟩ := C_at hC i hi
  cases e
  rw [h, List.getD_eq_getElem?_getD, List.getElem?_eq_getElem hi, Option.getD_some]
theorem row_reads {N : Nat → Prop} {w : World} {A : Option Addr} {n c : Nat} {l : List ByteArray} (h : Row N w (.slice A n c) l) (hl : l.length ≤ 9223372036854775807) : ReadsOf Value.string ByteArray.empty w A l.length l ∧ n = l.length ∧ l.length ≤ c := by
  obtain ⟨A', c', e, hc, hC⟩ := h.reads
  cases e
  refine ⟨⟨rfl, hl, fun hp => ?_⟩, rfl, hc⟩
  obtain ⟨ad, rfl, _⟩ := C_at hC 0 hp
  refine ⟨ad, rfl, fun j hj => ?_⟩
  obtain ⟨ad, e, h⟩ := C_at hC j hj
  cases e
  exact h

theorem add_zero_ (ad : Addr) : ad.add 0 = ad := by
  unfold Addr.add
  split
  · rfl
  · rename_i h; exact absurd rfl h
theorem Row.cell0 {N : Nat → Prop} {w : World} {ad : Addr} {n c : Nat} {b : ByteArray} {r : List ByteArray} (h : Row N w (.slice (some ad) n c) (b :: r)) : w.cell? ad = some (.string b) := by
  have := h.cell 0 (by simp)
  rwa [add_zero_] at this
abbrev ta : ByteArray := ⟨#[97]⟩
abbrev te : ByteArray := ⟨#[]⟩
abbrev tb : ByteArray := ⟨#[98]⟩
theorem small {l : List ByteArray} (h : l.all (fun t => decide (t.size ≤ 200)) = true) : ∀ t ∈ l, t.size ≤ 200 := fun t ht => of_decide_eq_true (List.all_eq_true.1 h t ht)
theorem scan5 : scan [5] = ([], 0, 0) := by
  have h : (opn (bstr [5])).2.2 = 10 := by decide +kernel
  unfold scan
  rw [scanF.eq_def]
  simp only
  rw [if_neg (by decide), h, if_neg (by decide), if_neg (by decide)]
theorem scan_f2 (l : List UInt8) (hl : l.length ≤ 1000000) {ls : List ByteArray} {n : Nat} {e : Int} (h : scan l = (ls, n, e)) : journal_Scan.f (2 * l.length + 2) (bstr l) = some (ls, (n : Int), e) := by
  have hf := scan_f (bstr l) (by rw [bstr_size]; omega) (2 * l.length + 2) (by rw [bstr_size]; omega)
  rw [bstr_size, show scanF (l.length + 1) (bstr l).data.toList = scan l from rfl, h] at hf
  exact hf

def none4 : ByteArray := ⟨#[110, 111, 110, 101]⟩
theorem read_other {room : Int} {s : S} (hl : s.left ≠ 0) : (s.d room).read none4 = (ByteArray.empty, 23) := by
  unfold D.read
  rw [if_neg (show (s.d room).left ≠ 0 from hl), if_neg (by show ¬ (if none4 = fn then s.no else none).isSome = true; rw [if_neg (by decide)]; simp)]

theorem one_below (W : World) (o : Obj) : Below W.heap.size W (W.alloc o) := (Below.refl _ W).alloc (Nat.le_refl _) o
theorem reads_one (W : World) (b : ByteArray) : ReadsOf Value.string ByteArray.empty (W.alloc (.cells #[.string b] 9)) (some ⟨W.heap.size, 0, none⟩) [b].length [b] := by
  refine ⟨rfl, by simp, fun _ => ⟨_, rfl, fun j hj => ?_⟩⟩
  obtain rfl : j = 0 := by simp at hj; omega
  have ea : (⟨W.heap.size, 0, none⟩ : Addr).add 0 = ⟨W.heap.size, 0, none⟩ := by simp [Addr.add]
  rw [ea, cell_of (MapKept.heap_alloc W _).1]
  rfl
theorem known_calls (w : World) : Calls Try.prog 7 #[] w fun e w' => e = .returned (.bool true) ∧ Below w.heap.size w w' := by
  have HN := fun W => o_new 1000 (by decide) (by decide) W
  obtain ⟨s0, e0⟩ : ∃ s, s = (⟨none, none, 0, 0, [], 0, -1⟩ : S) := ⟨_, rfl⟩
  rw [← e0] at HN
  have ha := FW_le ta (by decide)
  have he := FW_le te (by decide)
  have hb := FW_le tb (by decide)
  have z1 : s0.cur ++ FW ta = bstr (Fr [ta]) := by rw [e0]; show ByteArray.empty ++ FW ta = _; simp [Fr, FW]
  have k0 : s0.Sm 1000 := by rw [e0]; exact ⟨by decide, by decide, by decide, by decide, by decide, by decide, by decide, by decide, by decide, by decide⟩
  have fr1 : (Fr [ta]).length ≤ 214 := Fr_le [ta] (small (by decide))
  have fr2 : (Fr [ta, te]).length ≤ 428 := Fr_le [ta, te] (small (by decide))
  have fr3 : (Fr [tb]).length ≤ 214 := Fr_le [tb] (small (by decide))
  obtain ⟨s1, e1⟩ : ∃ s, s = s0.all (bstr (Fr [ta])) := ⟨_, rfl⟩
  have q1 : Writes 1000 ⟨#[97]⟩ 0 s0 s1 := writes_of k0 ta (by decide) (by rw [e1, ← z1]; exact jwrite_ok (by rw [e0]; decide) (by rw [e0]; decide) (by rw [z1, bstr_size]; omega)) (by rw [z1, bstr_size]; omega)
  have l1 : s1.left = -1 := by rw [e1, e0]; rfl
  have c1 : s1.cur = bstr (Fr [ta]) := by rw [e1]; rfl
  have k1 : s1.Sm 1000 := by
    refine ⟨?_, ?_, by omega, by omega, ?_, ?_, ?_, by rw [c1, bstr_size]; omega, by decide, by decide⟩ <;> rw [e1, e0] <;> decide
  have z2 : s1.cur ++ FW te = bstr (Fr [ta, te]) := by rw [c1]; unfold FW; rw [bstr_cat]; simp [Fr]
  obtain ⟨s2, e2⟩ : ∃ s, s = s1.all (bstr (Fr [ta, te])) := ⟨_, rfl⟩
  have q2 : Writes 1000 ⟨#[]⟩ 0 s1 s2 := writes_of k1 te (by decide) (by rw [e2, ← z2]; exact jwrite_ok (by omega) (by omega) (by rw [z2, bstr_size]; omega)) (by rw [z2, bstr_size]; omega)
  have l2 : s2.left = -1 := by rw [e2]; show dn (dn s1.left) = -1; rw [l1]; rfl
  have c2 : s2.cur = bstr (Fr [ta, te]) := by rw [e2]; rfl
  have k2 : s2.Sm 1000 := by
    refine ⟨?_, ?_, by omega, by omega, ?_, ?_, ?_, by rw [c2, bstr_size]; omega, by decide, by decide⟩ <;> rw [e2, e1, e0] <;> decide
  obtain ⟨s3, q3, l3, c3, p31, p32, p33, p34, p35⟩ := opens_of k2 l2 (by rw [c2, bstr_size]; omega) (l := [ta, te]) (n := (Fr [ta, te]).length) (by rw [c2, bstr_list]; exact scan_all _ (small (by decide))) (by rw [c2, bstr_size]; exact Nat.le_refl _)
  have b2 : s2.steps = 4 ∧ s2.nn = 2 ∧ s2.kn = 2 ∧ s2.l = [] := by rw [e2, e1, e0]; exact ⟨rfl, rfl, rfl, rfl⟩
  have c3s : s3.cur.size ≤ 428 := by rw [c3, bstr_size, List.length_take]; omega
  have k3 : s3.Sm 1000 := ⟨p31, by omega, by omega, by omega, by omega, by omega, by rw [b2.2.2.2] at p35; have : s3.l.length ≤ 0 := p35; omega, by omega, by decide, by decide⟩
  obtain ⟨s4, e4⟩ : ∃ s, s = s3.all (bstr (Fr [tb])) := ⟨_, rfl⟩
  have q4 : Renews 1000 [⟨#[98]⟩] 0 s3 s4 := renews_of k3 [tb] (by decide) (small (by decide)) (by rw [e4]; exact jput_ok (by omega) (by omega) (by rw [bstr_size]; omega)) (by rw [bstr_size]; omega)
  have l4 : s4.left = -1 := by rw [e4]; show dn (dn s3.left) = -1; rw [l3]; rfl
  have c4 : s4.cur = bstr (Fr [tb]) := by rw [e4]; rfl
  have k4 : s4.Sm 1000 := by
    refine ⟨?_, ?_, by omega, by omega, ?_, ?_, ?_, by rw [c4, bstr_size]; omega, by decide, by decide⟩ <;> rw [e4]
    · show 0 ≤ s3.steps + 2; omega
    · show s3.steps + 2 ≤ _; omega
    · show s3.nn + 1 ≤ _; omega
    · show s3.kn + 1 ≤ _; omega
    · show 0 ≤ _; omega
  obtain ⟨s5, q5, _⟩ := opens_of k4 l4 (by rw [c4, bstr_size]; omega) (l := [tb]) (n := (Fr [tb]).length) (by rw [c4, bstr_list]; exact scan_all _ (small (by decide))) (by rw [c4, bstr_size]; exact Nat.le_refl _)
  have qn : ∀ N g B W, At1 N g B W (s3.d 1000) → Calls Try.prog 16 #[.pointer (some ⟨g, 0, none⟩), .string ⟨#[110, 111, 110, 101]⟩] W fun e w' => e = .returned (.tuple #[.slice none 0 0, .int .i64 0]) ∧ w' = W := fun N g B W h => h.open_none none4 (by decide) (read_other (by omega))
  have q4' : ∀ N g B W, At1 N g B W (s3.d 1000) → Calls Try.prog 21 #[.pointer (some ⟨g, 0, none⟩), .string ⟨#[108, 111, 103]⟩, .slice (some ⟨W.heap.size, 0, none⟩) 1 1] (W.alloc (.cells #[.string ⟨#[98]⟩] 9)) fun e w' =>
      e = .returned (.int .i64 0) ∧ At1 N g B w' (s4.d 1000) ∧ Below B W w' ∧ Same N W w' := fun N g B W h =>
    (q4 _ _ _ _ _ 1 (h.on (one_below _ _)) (reads_one W ⟨#[98]⟩)).mono fun e w' ⟨he, h2, hb, hs⟩ => ⟨he, h2, ((one_below W _).mono h.top).trans hb, (h.same (one_below W _)).trans hs⟩
  clear q4
  have fa : (frame ta.data.toList).length = 6 := by rw [frame_length, show ta.data.toList.length = 1 from rfl, enc_small (by omega)]; rfl
  have hsc := scan_f2 (frame ta.data.toList ++ [5]) (by rw [List.length_append, fa]; decide) (by rw [scan_frame _ _ (by decide), scan5])
  have ef : bstr (frame ta.data.toList ++ [5]) = bstr (frame ta.data.toList) ++ (⟨#[5]⟩ : ByteArray) := (bstr_cat _ _).symm
  rw [ef, fa] at hsc
  have cw : ∀ W, Calls Try.prog 9 #[.string ⟨#[97]⟩] W fun e w' => e = .returned (.string (bstr (frame ta.data.toList))) ∧ Below W.heap.size W w' := fun W => vedetteref1_Wrap.calls 100 ta _ W (ref_wrap_f 100 ta (by decide) (by decide))
  have fz : (bstr (frame ta.data.toList)).size = 6 := by rw [bstr_size, fa]
  generalize bstr (frame ta.data.toList) = fw at hsc cw ef fz
  have csc := fun W => journal_Scan.calls _ _ _ _ _ W hsc
  clear hsc z1 z2 k0 k1 k2 k3 k4 fr1 fr2 fr3 l1 l2 l3 l4 c1 c2 c3 c4 e0 e1 e2 e4 p31 p32 p33 p34 p35 b2 c3s fa ha he hb ef
  go_enter Try.func7, Try.ntmps7
  go_wp2_with (first
    | (go_at_call 13; with_reducible refine (HN w).mono ?_; rintro e w1 ⟨rfl, HD1, hB1⟩)
    | (go_at_call 18; with_reducible refine (q1 _ _ _ _ HD1).mono ?_; rintro e w2 ⟨rfl, HD2, hB2, hS2⟩)
    | (go_at_call 18; with_reducible refine (q2 _ _ _ _ HD2).mono ?_; rintro e w3 ⟨rfl, HD3, hB3, hS3⟩)
    | (go_at_call 16; with_reducible refine (q3 _ _ _ _ HD3).mono ?_; rintro e w4 ⟨v4, N4, rfl, hN4, hR4, HD4, hB4, hS4⟩; obtain ⟨a4, c4, rfl⟩ := hR4.ad)
    | (go_at_call 16; with_reducible refine (qn _ _ _ _ HD4).mono ?_; rintro e w4' ⟨rfl, rfl⟩)
    | (go_at_call 21; with_reducible refine (q4' _ _ _ _ HD4).mono ?_; rintro e w5 ⟨rfl, HD5, hB5, hS5⟩)
    | (go_at_call 16; with_reducible refine (q5 _ _ _ _ HD5).mono ?_; rintro e w6 ⟨v6, N6, rfl, hN6, hR6, HD6, hB6, hS6⟩; obtain ⟨a6, c6, rfl⟩ := hR6.ad)
    | (go_at_call 9; with_reducible refine (cw _).mono ?_; rintro e w7 ⟨rfl, hB7⟩)
    | (go_at_call 11; with_reducible refine (csc _).mono ?_; rintro e w8 ⟨v8, rfl, hR8, hB8⟩; obtain ⟨a8, c8, rfl⟩ := (row_new (N := fun _ => False) hR8).ad; have g1 := ((hR4.same hS5).same hS6).more hN6; have g2 := (g1.same (HD6.same hB7)).same ((HD6.on hB7).same hB8); have g3 := (hR6.same (HD6.same hB7)).same ((HD6.on hB7).same hB8); have f1 : w8.cell? a4 = some (.string ⟨#[97]⟩) := g2.cell0; have f2 : w8.cell? a6 = some (.string ⟨#[98]⟩) := g3.cell0; clear g1 g2 g3))
  go_ret
  exact ⟨by simp, (((((hB1.trans hB2).trans hB3).trans hB4).trans hB5).trans hB6).trans ((hB7.mono HD6.top).trans (hB8.mono (Nat.le_trans HD6.top hB7.size)))⟩

end Go.Proofs.Ytbaefdodchgbkaa.Dk
