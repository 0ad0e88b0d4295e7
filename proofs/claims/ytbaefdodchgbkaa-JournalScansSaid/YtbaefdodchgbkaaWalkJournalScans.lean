/- JournalScans' walk: what the code of the statement does, told by what the journal's functions answer. -/
import Derived.Test.YtbaefdodchgbkaaJourL
import Derived.Test.YtbaefdodchgbkaaConv
import Derived.RegionTactic
import Derived.ChangeAlike
import Derived.BigRegion
namespace Go.Proofs.Ytbaefdodchgbkaa.Print
open Go.RowKit Go.Maps Go.Proofs.YtbaefdodchgbkaaW.PrintWords Go.Proofs.YtbaefdodchgbkaaW.PrintLast Go.Proofs.YtbaefdodchgbkaaW.PrintMore Go.Proofs.Ytbaefdodchgbkaa.Dk Go.Proofs.Ytbaefdodchgbkaa.Num
set_option linter.unusedVariables false
set_option linter.unusedSimpArgs false

/-- What is to be shown of plain numbers and texts. -/
def vedettelaw21_JournalScans.Pure : Prop := (∀ s : ByteArray, s.size ≤ 1048576 → ∃ k, vedettelaw21_scans.f k s = some true) ∧
  ∀ l : List ByteArray, (∀ t ∈ l, t.size ≤ 200) → l.length ≤ 10 → ∃ k, journal_Scan.f k (bstr (Fr l)) = some (l, ((bstr (Fr l)).size : Int), 0)

theorem scans_calls (P : vedettelaw21_JournalScans.Pure) (s : ByteArray) (hs : s.size ≤ 1048576) (w : World) :
    Calls Try.prog 10 #[.string s] w fun e w' => e = .returned (.bool true) ∧ Below w.heap.size w w' := by
  obtain ⟨k, hk⟩ := P.1 s hs
  exact vedettelaw21_scans.calls k s true w hk

theorem early_scans (A0 : Option Addr) (n0 c0 : Nat) (l0 : List ByteArray) (s : ByteArray) (cut at_ by_ : Int) (w : World) (R0 : Rd w A0 n0 c0 l0) (b : Bool) (hf : vedettelaw21_few.f (l0.length + 1) l0 = some b) (h : b = false ∨ 500 < s.size) :
    Calls Try.prog 3 #[.slice A0 n0 c0, .string s, .int .u16 cut, .int .u16 at_, .int .u8 by_] w fun e w' => e = .returned (.bool true) ∧ Below w.heap.size w w' := by
  have hk := known_calls w
  have f0 := fun w1 (hb : Below w.heap.size w w1) => few_calls (R0.on hb) hf
  cases b with
  | false =>
    go_enter Try.func3, Try.ntmps3
    go_wp2_with (first
      | (go_at_call 7; with_reducible refine hk.mono ?_; rintro e w1 ⟨rfl, hb⟩)
      | (go_at_call 8; with_reducible refine (f0 w1 hb).mono ?_; rintro e w2 ⟨rfl, hb2⟩))
    go_ret
    exact ⟨rfl, Mine.step_below hb hb2⟩
  | true =>
    have h1z : decide (500 < (s.size : Int)) = true := decide_eq_true (by rcases h with h | h; cases h; omega)
    go_enter Try.func3, Try.ntmps3
    go_wp2_with (first
      | (go_at_call 7; with_reducible refine hk.mono ?_; rintro e w1 ⟨rfl, hb⟩)
      | (go_at_call 8; with_reducible refine (f0 w1 hb).mono ?_; rintro e w2 ⟨rfl, hb2⟩))
    go_ret
    exact ⟨rfl, Mine.step_below hb hb2⟩

theorem main_scans (P : vedettelaw21_JournalScans.Pure) (A0 : Option Addr) (c0 : Nat) (l0 : List ByteArray) (s : ByteArray) (cut at_ by_ : Int) (w : World)
    (hcut : 0 ≤ cut ∧ cut < 65536) (hat : 0 ≤ at_ ∧ at_ < 65536) (hby : 0 ≤ by_ ∧ by_ < 256)
    (Q0 : ReadsOf Value.string ByteArray.empty w A0 l0.length l0) (hc0 : l0.length ≤ c0)
    (hf : vedettelaw21_few.f (l0.length + 1) l0 = some true) (z0 : l0.length ≤ 10 ∧ ∀ t ∈ l0, t.size ≤ 100) (hs : s.size ≤ 500) :
    Calls Try.prog 3 #[.slice A0 l0.length c0, .string s, .int .u16 cut, .int .u16 at_, .int .u8 by_] w fun e w' => e = .returned (.bool true) ∧ Below w.heap.size w w' := by
  have hk := known_calls w
  have R0 := Rd.of Q0 hc0
  have f0 := fun w1 (hb : Below w.heap.size w w1) => few_calls (R0.on hb) hf
  have SC := fun x (hx : x.size ≤ 1048576) W => scans_calls P x hx W
  have hz2 : ∀ t ∈ l0, t.size ≤ 200 := fun t ht => Nat.le_trans (z0.2 t ht) (by decide)
  obtain ⟨k, hsc⟩ := P.2 l0 hz2 z0.1
  have csc := fun W => journal_Scan.calls k _ _ _ _ W hsc
  have fl : ∀ i, (Fr (l0.take i)).length ≤ 2140 := fun i => by
    have := Fr_le (l0.take i) (fun t ht => hz2 t (List.mem_of_mem_take ht))
    rw [List.length_take] at this
    omega
  have cw : ∀ i (h : i < l0.length) W, Calls Try.prog 9 #[.string l0[i]] W fun e w' => e = .returned (.string (bstr (frame l0[i].data.toList))) ∧ Below W.heap.size W w' := fun i h W =>
    vedetteref1_Wrap.calls 2100 l0[i] _ W (ref_wrap_f 2100 l0[i] (by have := z0.2 l0[i] (List.getElem_mem h); omega) (by have := z0.2 l0[i] (List.getElem_mem h); omega))
  obtain ⟨r0, hr0, hs0⟩ := same_f l0 l0 (by omega)
  obtain rfl : true = r0 := (hs0 rfl).symm
  have hsz : decide (500 < (s.size : Int)) = false := decide_eq_false (by omega)
  clear hsc hs0 P
  go_enter Try.func3, Try.ntmps3
  go_wp2_with (first
    | (go_at_call 7; with_reducible refine hk.mono ?_; rintro e w1 ⟨rfl, hb1⟩)
    | (go_at_call 8; with_reducible refine (f0 w1 hb1).mono ?_; rintro e w2 ⟨rfl, hb2⟩; have H2 := Mine.step_below hb1 hb2))
  go_loopw [11, 12] (fun v11 v12 wr => ∃ i : Nat, i ≤ l0.length ∧ v12 = .int .i64 (i : Int) ∧ v11 = .string (bstr (Fr (l0.take i))) ∧ Below w.heap.size w wr)
    (fun _ v12 _ => l0.length - (intOf v12).toNat)
  case atStart => exact ⟨0, by omega, rfl, rfl, H2⟩
  case round =>
    obtain ⟨i, hi, rfl, rfl, HBi⟩ := hrel
    by_cases hlt : i < l0.length
    · have hltz : decide ((i : Int) < (l0.length : Int)) = true := decide_eq_true (by omega)
      obtain ⟨x, rfl, hc, hxb⟩ := row_at Q0 HBi hlt
      have Q := cw i hlt wr
      have ct : bstr (Fr (l0.take i)) ++ bstr (frame l0[i].data.toList) = bstr (Fr (l0.take (i + 1))) := by
        rw [bstr_cat, List.take_succ_eq_append_getElem hlt, Fr_snoc]
      have f1 := fl i
      have f2 := frame_le l0[i] (hz2 _ (List.getElem_mem hlt))
      have csz : (bstr (Fr (l0.take i))).size + (bstr (frame l0[i].data.toList)).size ≤ 9223372036854775807 := by rw [bstr_size, bstr_size]; omega
      clear cw fl f1 f2
      go_wp2_with (first
        | (go_at_call 9; with_reducible refine Q.mono ?_; rintro e w4 ⟨rfl, hb4⟩))
      exact ⟨⟨i + 1, by omega, by simp, rfl, Mine.step_below HBi hb4⟩, by simp [intOf]; omega⟩
    · obtain rfl : i = l0.length := by omega
      have hltz : decide ((l0.length : Int) < (l0.length : Int)) = false := decide_eq_false (by omega)
      have ft := fl l0.length
      rw [List.take_length] at ft ⊢
      obtain ⟨t, et⟩ : ∃ t, t = bstr (Fr l0) := ⟨_, rfl⟩
      rw [← et] at csc ⊢
      have ht : t.size ≤ 2140 := by rw [et, bstr_size]; exact ft
      clear cw fl ft et hz2
      by_cases hpos : 0 < t.size
      · have hposz : decide (0 < t.size) = true := decide_eq_true hpos
        have kb := fun W => print_bytes (P := Try.prog) 9 27 5 Try.underlying9 Try.underlying27 Try.underlying5 t W
        obtain ⟨p, hp, hp2⟩ : ∃ p : Nat, at_ % (t.size : Int) = (p : Int) ∧ p < t.size := by
          have h1 := Int.emod_nonneg at_ (show (t.size : Int) ≠ 0 by omega)
          have h2 := Int.emod_lt_of_pos at_ (show 0 < (t.size : Int) by omega)
          exact ⟨(at_ % (t.size : Int)).toNat, by omega, by omega⟩
        obtain ⟨q, hq, hq2⟩ : ∃ q : Nat, cut % (t.size : Int) = (q : Int) ∧ q < t.size := by
          have h1 := Int.emod_nonneg cut (show (t.size : Int) ≠ 0 by omega)
          have h2 := Int.emod_lt_of_pos cut (show 0 < (t.size : Int) by omega)
          exact ⟨(cut % (t.size : Int)).toNat, by omega, by omega⟩
        have hat1 := hat.1
        have hat2 := hat.2
        have hcut1 := hcut.1
        have hcut2 := hcut.2
        have hce := fun W => Mine.conv_cell W 5 t p hp2 (by omega)
        have hfr := fun W => Mine.conv_frozen W 5 t p hp2
        have HRd := Aside0.mk (bytes_reads wr 5 t (by omega))
        have hm1 : wrap64 at_ = at_ := wrap64_of (by omega) (by omega)
        have hm2 : at_.tmod (t.size : Int) = (p : Int) := by rw [Int.tmod_eq_emod_of_nonneg hat.1, hp]
        obtain ⟨c, hc⟩ : ∃ c, bt t p = c := ⟨_, rfl⟩
        rw [hc] at hce
        go_wp2
        have c1 : (Lib.bytesWorld wr 5 t).cell? ⟨wr.heap.size, p, none⟩ = some (.int .u8 c) := hce wr
        have f1 : (Lib.bytesWorld wr 5 t).frozen? ⟨wr.heap.size, p, none⟩ = false := hfr wr
        have HB2 : Below w.heap.size w (Lib.bytesWorld wr 5 t) := bytes_below HBi HBi.size 5 t
        clear hce hfr kb
        generalize Lib.bytesWorld wr 5 t = W2 at *
        clear hm1
        have hm3 : (wrap64 at_).tmod (t.size : Int) = (p : Int) := by rw [wrap64_of (by omega) (by omega)]; exact hm2
        go_region
        obtain ⟨v, hv⟩ : ∃ v, Go.bits .xor .u8 c by_ = v := ⟨_, rfl⟩
        rw [hv]
        have HR2 := Mine.reads_set HRd.out p hp2 v
        have HB3 : Below w.heap.size w (W2.setCell ⟨wr.heap.size, p, none⟩ (.int .u8 v)).drew := below_drew1 (HB2.setCell HBi.size _)
        obtain ⟨W3, hW3⟩ : ∃ W3, W3 = (W2.setCell ⟨wr.heap.size, p, none⟩ (.int .u8 v)).drew := ⟨_, rfl⟩
        rw [← hW3] at HB3 ⊢
        have HR3 : ReadsInt W3 .u8 (some ⟨wr.heap.size, 0, none⟩) t.size ((bytesOf t).set p v) := by rw [hW3]; exact HR2
        obtain ⟨y, hy⟩ : ∃ y, strOfNums ((bytesOf t).set p v) = y := ⟨_, rfl⟩
        have hys : y.size ≤ 1048576 := by rw [← hy, strOfNums_size, List.length_set, bytesOf_length]; omega
        have kp : (convert 27 9 (.slice (some ⟨wr.heap.size, 0, none⟩) t.size (grownCap wr t.size 0 5))).run Try.prog W3 = .ok (.string y) W3 := by
          rw [← hy]
          exact string_of_reads Try.underlying27 Try.underlying5 Try.underlying9 HR3
        have hqs : (t.extract 0 q).size ≤ 1048576 := by rw [ByteArray.size_extract]; omega
        have hcs : (t ++ s).size ≤ 1048576 := by rw [ByteArray.size_append]; omega
        have hcs2 : t.size + s.size ≤ 9223372036854775807 := by omega
        have K1 := SC y hys
        have K2 := SC (t.extract 0 q) hqs
        have K3 := SC s (by omega)
        have K4 := SC (t ++ s) hcs
        have hcm : cut.tmod (t.size : Int) = (q : Int) := by rw [Int.tmod_eq_emod_of_nonneg hcut.1, hq]
        have hql : q ≤ t.size := by omega
        clear HR2 HR3 HRd hy hW3 hv hc hm2 hm3 hp c1 f1 HB2 SC hat hcut hby hqs hcs hys
        go_wp2_with (first
          | (go_at_call 10; with_reducible refine (K1 _).mono ?_; rintro e w4 ⟨rfl, hb4⟩; have H4 := Mine.step_below HB3 hb4)
          | (go_at_call 10; with_reducible refine (K2 _).mono ?_; rintro e w5 ⟨rfl, hb5⟩; have H5 := Mine.step_below H4 hb5)
          | (go_at_call 11; with_reducible refine (csc _).mono ?_; rintro e w6 ⟨v6, rfl, hR6, hb6⟩; have H6 := Mine.step_below H5 hb6; have hRow := row_new (N := fun _ => False) hR6; obtain ⟨a6, c6, rfl⟩ := hRow.slice; have R6 := hRow.rd)
          | (go_at_call 10; with_reducible refine (K3 _).mono ?_; rintro e w7 ⟨rfl, hb7⟩; have H7 := Mine.step_below H6 hb7)
          | (go_at_call 10; with_reducible refine (K4 _).mono ?_; rintro e w8 ⟨rfl, hb8⟩; have H8 := Mine.step_below H7 hb8)
          | (go_at_call 12; with_reducible refine (eqs_calls ((R6.on hb7).on hb8) (R0.on H8) hr0).mono ?_; rintro e w9 ⟨rfl, hb9⟩; have H9 := Mine.step_below H8 hb9))
        go_ret
        exact ⟨by simp, H9⟩
      · have hposz : decide (0 < t.size) = false := decide_eq_false hpos
        have hcs : (t ++ s).size ≤ 1048576 := by rw [ByteArray.size_append]; omega
        have hcs2 : t.size + s.size ≤ 9223372036854775807 := by omega
        have K3 := SC s (by omega)
        have K4 := SC (t ++ s) hcs
        clear SC hcs
        go_wp2_with (first
          | (go_at_call 11; with_reducible refine (csc _).mono ?_; rintro e w6 ⟨v6, rfl, hR6, hb6⟩; have H6 := Mine.step_below HBi hb6; have hRow := row_new (N := fun _ => False) hR6; obtain ⟨a6, c6, rfl⟩ := hRow.slice; have R6 := hRow.rd)
          | (go_at_call 10; with_reducible refine (K3 _).mono ?_; rintro e w7 ⟨rfl, hb7⟩; have H7 := Mine.step_below H6 hb7)
          | (go_at_call 10; with_reducible refine (K4 _).mono ?_; rintro e w8 ⟨rfl, hb8⟩; have H8 := Mine.step_below H7 hb8)
          | (go_at_call 12; with_reducible refine (eqs_calls ((R6.on hb7).on hb8) (R0.on H8) hr0).mono ?_; rintro e w9 ⟨rfl, hb9⟩; have H9 := Mine.step_below H8 hb9))
        go_ret
        exact ⟨by simp, H9⟩

theorem vedettelaw21_JournalScans.walk (P : vedettelaw21_JournalScans.Pure) (a0 : Option Addr) (len0 cap0 : Nat) (z0 : List ByteArray) (a1 : ByteArray) (a2 a3 a4 : Int) (w : World)
    (w0 : (a0 = none ∧ len0 = 0 ∧ cap0 = 0 ∧ z0 = []) ∨ ∃ x, a0 = some x ∧ len0 ≤ cap0 ∧ cap0 ≤ maxLen ∧ z0.length = cap0 ∧ (∀ i, i < z0.length → w.cell? (x.add i) = some (.string (z0.getD i ByteArray.empty))) ∧ ∀ s ∈ z0, s.size ≤ maxLen) (y0 : len0 * 16 ≤ 140737488351232)
    (_w1 : a1.size ≤ 140737488351232) (w2 : (Lit.int .u16 a2).wf = true) (w3 : (Lit.int .u16 a3).wf = true) (w4 : (Lit.int .u8 a4).wf = true) :
    Calls Try.prog 3 #[.slice a0 len0 cap0, .string a1, .int .u16 a2, .int .u16 a3, .int .u8 a4] w fun e w' => e = .returned (.bool true) ∧ Below w.heap.size w w' := by
  obtain ⟨l0, rfl, hr0, hm0, hw0, hc0⟩ := Mine.ofRowS w0
  obtain ⟨f0, hf0, hz0⟩ := few_f l0 (by omega)
  by_cases h : f0 = false ∨ 500 < a1.size
  · exact early_scans a0 _ _ l0 a1 a2 a3 a4 w (Rd.of hr0 hc0) f0 hf0 h
  · obtain rfl : f0 = true := by cases f0 with | false => exact absurd (.inl rfl) h | true => rfl
    exact main_scans P a0 cap0 l0 a1 a2 a3 a4 w (wf_u16 w2) (wf_u16 w3) (wf_u8 w4) hr0 hc0 hf0 (hz0 rfl) (by omega)

end Go.Proofs.Ytbaefdodchgbkaa.Print
