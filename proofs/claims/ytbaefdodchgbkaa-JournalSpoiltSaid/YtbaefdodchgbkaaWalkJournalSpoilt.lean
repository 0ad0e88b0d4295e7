/- JournalSpoilt's walk: what the code of the statement does, told by what the journal's functions answer. -/
import Derived.Test.YtbaefdodchgbkaaJourL
import Derived.Test.YtbaefdodchgbkaaConv
import Derived.Test.YtbaefdodchgbkaaSumD
namespace Go.Proofs.Ytbaefdodchgbkaa.Print
open Go.RowKit Go.Maps Go.Proofs.YtbaefdodchgbkaaW.PrintWords Go.Proofs.YtbaefdodchgbkaaW.PrintLast Go.Proofs.YtbaefdodchgbkaaW.PrintMore Go.Proofs.Ytbaefdodchgbkaa.Dk Go.Proofs.Ytbaefdodchgbkaa.Num
set_option linter.unusedVariables false
set_option linter.unusedSimpArgs false

/-- The bytes of so many records, of which one has one byte turned. -/
def Sp (l : List ByteArray) (k j : Nat) (v : UInt8) (n : Nat) : List UInt8 :=
  if n ≤ k then Fr (l.take n) else Fr (l.take k) ++ (frame (l.getD k ByteArray.empty).data.toList).set j v ++ Fr ((l.take n).drop (k + 1))
/-- What is to be shown of plain numbers and texts. -/
def vedettelaw21_JournalSpoilt.Pure : Prop := ∀ (l : List ByteArray) (k j : Nat) (v : UInt8), (∀ t ∈ l, t.size ≤ 100) → l.length ≤ 10 → (h : k < l.length) → k + 1 < l.length → 1 ≤ j → (hj : j < (frame l[k].data.toList).length) → v ≠ (frame l[k].data.toList)[j] →
  scan (Sp l k j v l.length) = (l.take k, (Fr (l.take k)).length, 24)

theorem early_spoilt (A0 : Option Addr) (n0 c0 : Nat) (l0 : List ByteArray) (wh at_ by_ : Int) (w : World) (R0 : Rd w A0 n0 c0 l0) (b : Bool) (hf : vedettelaw21_few.f (l0.length + 1) l0 = some b) (h : b = false ∨ l0.length < 2 ∨ by_ = 0) :
    Calls Try.prog 4 #[.slice A0 n0 c0, .int .u8 wh, .int .u8 at_, .int .u8 by_] w fun e w' => e = .returned (.bool true) ∧ Below w.heap.size w w' := by
  have hk := known_calls w
  have f0 := fun w1 (hb : Below w.heap.size w w1) => few_calls (R0.on hb) hf
  have hn : n0 = l0.length := R0.1
  cases b with
  | false =>
    clear hn
    go_enter Try.func4, Try.ntmps4
    go_wp2_with (first
      | (go_at_call 7; with_reducible refine hk.mono ?_; rintro e w1 ⟨rfl, hb⟩)
      | (go_at_call 8; with_reducible refine (f0 w1 hb).mono ?_; rintro e w2 ⟨rfl, hb2⟩))
    go_ret
    exact ⟨rfl, Mine.step_below hb hb2⟩
  | true =>
    by_cases h1 : l0.length < 2
    · have h1z : decide ((n0 : Int) < 2) = true := decide_eq_true (by omega)
      clear hn
      go_enter Try.func4, Try.ntmps4
      go_wp2_with (first
        | (go_at_call 7; with_reducible refine hk.mono ?_; rintro e w1 ⟨rfl, hb⟩)
        | (go_at_call 8; with_reducible refine (f0 w1 hb).mono ?_; rintro e w2 ⟨rfl, hb2⟩))
      go_ret
      exact ⟨rfl, Mine.step_below hb hb2⟩
    · have h1z : decide ((n0 : Int) < 2) = false := decide_eq_false (by omega)
      clear hn
      obtain rfl : by_ = 0 := by rcases h with h | h | h; cases h; omega; exact h
      go_enter Try.func4, Try.ntmps4
      go_wp2_with (first
        | (go_at_call 7; with_reducible refine hk.mono ?_; rintro e w1 ⟨rfl, hb⟩)
        | (go_at_call 8; with_reducible refine (f0 w1 hb).mono ?_; rintro e w2 ⟨rfl, hb2⟩))
      go_ret
      exact ⟨rfl, Mine.step_below hb hb2⟩

theorem rd_len {w : World} {A : Option Addr} {n n' c : Nat} {l : List ByteArray} (h : Rd w A n c l) (e : n' = l.length) : Rd w A n' c l := ⟨e, h.2⟩
theorem turned_at {b : ByteArray} {j : Nat} (hj : j < b.size) (by_ : Int) (h0 : 0 ≤ by_) (h1 : by_ < 256) (hne : by_ ≠ 0) :
    ∃ v : Nat, Go.bits .xor .u8 (bt b j) by_ = (v : Int) ∧ v < 256 ∧ UInt8.ofNat v ≠ b.data.toList[j]'(by rw [ba_size]; exact hj) := by
  have hc := bt_get b j hj
  generalize hu : b.data.toList[j]'(by rw [ba_size]; exact hj) = u at hc ⊢
  obtain ⟨n, rfl⟩ : ∃ n : Nat, by_ = (n : Int) := ⟨by_.toNat, by omega⟩
  rw [hc, u8_xor_nat u.toNat n u.toNat_lt (by omega)]
  refine ⟨u.toNat ^^^ n, rfl, Nat.xor_lt_two_pow (n := 8) u.toNat_lt (by omega), fun e => ?_⟩
  have e2 : u.toNat ^^^ n = u.toNat := by
    have := congrArg UInt8.toNat e
    rwa [ofNat_toNat (Nat.xor_lt_two_pow (n := 8) u.toNat_lt (by omega))] at this
  have e3 : u.toNat ^^^ (u.toNat ^^^ n) = u.toNat ^^^ u.toNat := by rw [e2]
  rw [← Nat.xor_assoc, Nat.xor_self, Nat.zero_xor] at e3
  omega
theorem bytes_self (s : ByteArray) : strOfNums (bytesOf s) = s := by
  have := strOfNums_set s s.size 0
  rw [List.set_eq_of_length_le (by rw [bytesOf_length]; exact Nat.le_refl _), List.set_eq_of_length_le (by rw [ba_size]; exact Nat.le_refl _)] at this
  rw [this]
  exact Num.ba_ext rfl
theorem Sp_lt (l : List ByteArray) (k j : Nat) (v : UInt8) (i : Nat) (hi : i < l.length) (h : i < k) : Sp l k j v i ++ frame l[i].data.toList = Sp l k j v (i + 1) := by
  unfold Sp
  rw [if_pos (by omega), if_pos (by omega), List.take_succ_eq_append_getElem hi, Fr_snoc]
theorem Sp_eq (l : List ByteArray) (k j : Nat) (v : UInt8) (hk : k < l.length) : Sp l k j v k ++ (frame l[k].data.toList).set j v = Sp l k j v (k + 1) := by
  unfold Sp
  rw [if_pos (by omega), if_neg (by omega), List.drop_eq_nil_of_le (by rw [List.length_take]; omega), List.getD_eq_getElem?_getD, List.getElem?_eq_getElem hk, Option.getD_some]
  simp [Fr]
theorem Sp_gt (l : List ByteArray) (k j : Nat) (v : UInt8) (i : Nat) (hi : i < l.length) (h : k < i) : Sp l k j v i ++ frame l[i].data.toList = Sp l k j v (i + 1) := by
  unfold Sp
  rw [if_neg (by omega), if_neg (by omega), List.take_succ_eq_append_getElem hi, List.drop_append_of_le_length (by rw [List.length_take]; omega), Fr_snoc, List.append_assoc]
theorem Sp_le (l : List ByteArray) (k j : Nat) (v : UInt8) (i : Nat) (hz : ∀ t ∈ l, t.size ≤ 200) (hl : l.length ≤ 10) : (Sp l k j v i).length ≤ 6000 := by
  unfold Sp
  split
  · have := Fr_le (l.take i) (fun t ht => hz t (List.mem_of_mem_take ht))
    rw [List.length_take] at this
    omega
  · have h1 := Fr_le (l.take k) (fun t ht => hz t (List.mem_of_mem_take ht))
    have h2 := Fr_le ((l.take i).drop (k + 1)) (fun t ht => hz t (List.mem_of_mem_take (List.mem_of_mem_drop ht)))
    have h3 : (frame (l.getD k ByteArray.empty).data.toList).length ≤ 214 := by
      refine frame_le _ ?_
      rw [List.getD_eq_getElem?_getD]
      cases e : l[k]? with
      | none => simp
      | some t => exact hz t (List.mem_of_getElem? e)
    rw [List.length_drop, List.length_take] at h2
    rw [List.length_take] at h1
    simp only [List.length_append, List.length_set]
    omega
def hd (l : List ByteArray) (k i : Nat) : Int := if i ≤ k then 0 else ((Fr (l.take k)).length : Int)

set_option maxHeartbeats 1000000 in
theorem main_spoilt (P : vedettelaw21_JournalSpoilt.Pure) (A0 : Option Addr) (c0 : Nat) (l0 : List ByteArray) (wh at_ by_ : Int) (w : World)
    (hwh : 0 ≤ wh ∧ wh < 256) (hat : 0 ≤ at_ ∧ at_ < 256) (hby : 0 ≤ by_ ∧ by_ < 256) (hby0 : by_ ≠ 0)
    (Q0 : ReadsOf Value.string ByteArray.empty w A0 l0.length l0) (hc0 : l0.length ≤ c0)
    (hf : vedettelaw21_few.f (l0.length + 1) l0 = some true) (z0 : l0.length ≤ 10 ∧ ∀ t ∈ l0, t.size ≤ 100) (h2 : 2 ≤ l0.length) :
    Calls Try.prog 4 #[.slice A0 l0.length c0, .int .u8 wh, .int .u8 at_, .int .u8 by_] w fun e w' => e = .returned (.bool true) ∧ Below w.heap.size w w' := by
  have hk := known_calls w
  have R0 := Rd.of Q0 hc0
  have f0 := fun w1 (hb : Below w.heap.size w w1) => few_calls (R0.on hb) hf
  have hz2 : ∀ t ∈ l0, t.size ≤ 200 := fun t ht => Nat.le_trans (z0.2 t ht) (by decide)
  -- the one that is turned
  obtain ⟨k, hkk, hk2⟩ : ∃ k : Nat, wh % ((l0.length : Int) - 1) = (k : Int) ∧ k + 1 < l0.length := by
    have h1 := Int.emod_nonneg wh (show ((l0.length : Int) - 1) ≠ 0 by omega)
    have h3 := Int.emod_lt_of_pos wh (show 0 < ((l0.length : Int) - 1) by omega)
    exact ⟨(wh % ((l0.length : Int) - 1)).toNat, by omega, by omega⟩
  have hkl : k < l0.length := by omega
  obtain ⟨fk, hfk⟩ : ∃ fk, frame l0[k].data.toList = fk := ⟨_, rfl⟩
  have hfz : 5 ≤ fk.length ∧ fk.length ≤ 214 := by rw [← hfk]; exact ⟨frame_pos _, frame_le _ (hz2 _ (List.getElem_mem hkl))⟩
  obtain ⟨j, hj, hj1, hj2⟩ : ∃ j : Nat, 1 + at_ % ((fk.length : Int) - 1) = (j : Int) ∧ 1 ≤ j ∧ j < fk.length := by
    have h1 := Int.emod_nonneg at_ (show ((fk.length : Int) - 1) ≠ 0 by omega)
    have h3 := Int.emod_lt_of_pos at_ (show 0 < ((fk.length : Int) - 1) by omega)
    exact ⟨(1 + at_ % ((fk.length : Int) - 1)).toNat, by omega, by omega, by omega⟩
  have hjb : j < (bstr fk).size := by rw [bstr_size]; exact hj2
  obtain ⟨v, hv, hv1, hv2⟩ := turned_at hjb by_ hby.1 hby.2 hby0
  have hscan : scan (Sp l0 k j (UInt8.ofNat v) l0.length) = (l0.take k, (Fr (l0.take k)).length, 24) := by
    refine P l0 k j _ z0.2 z0.1 hkl hk2 hj1 (by rw [hfk]; exact hj2) ?_
    have := hv2
    simp only [bstr_list] at this
    simpa only [hfk] using this
  have hSl := fun i => Sp_le l0 k j (UInt8.ofNat v) i hz2 z0.1
  obtain ⟨x, hx⟩ : ∃ x, x = bstr (Sp l0 k j (UInt8.ofNat v) l0.length) := ⟨_, rfl⟩
  have hxs : x.size ≤ 6000 := by rw [hx, bstr_size]; exact hSl _
  have hsc := scan_f2 _ (by have := hSl l0.length; omega) hscan
  rw [← hx] at hsc
  have csc := fun W => journal_Scan.calls _ _ _ _ _ W hsc
  have HN := fun W => o_new 100000 (by decide) (by decide) W
  obtain ⟨s0, e0⟩ : ∃ s, s = (⟨none, none, 0, 0, [], 0, -1⟩ : S) := ⟨_, rfl⟩
  rw [← e0] at HN
  have m0 : s0.Sm 100000 := by rw [e0]; exact ⟨by decide, by decide, by decide, by decide, by decide, by decide, by decide, by decide, by decide, by decide⟩
  obtain ⟨s1, e1⟩ : ∃ s, s = s0.wr x (x, true) := ⟨_, rfl⟩
  obtain ⟨s2, e2⟩ : ∃ s, s = s1.sy := ⟨_, rfl⟩
  have q1 : Does 100000 14 (fun g => #[.pointer (some ⟨g, 0, none⟩), .string ⟨#[108, 111, 103]⟩, .string x]) (.int .i64 0) s0 s1 := o_put m0.ok x (by omega) (by rw [e0]; decide) (by omega) e1.symm
  have l1 : s1.left = -1 := by rw [e1, e0]; rfl
  have n1 : s1.no = some x := by rw [e1]; rfl
  have k1 : s1.Ok 100000 := by rw [e1]; exact m0.wr (by omega)
  have q2 : Does 100000 15 (fun g => #[.pointer (some ⟨g, 0, none⟩), .string ⟨#[108, 111, 103]⟩]) (.int .i64 0) s1 s2 := o_sync k1 (by omega) n1 e2.symm
  have l2 : s2.left ≠ 0 := by rw [e2]; show (if s1.left > 0 then s1.left - 1 else s1.left) ≠ 0; rw [if_neg (by omega)]; omega
  have n2 : s2.no = some x := by rw [e2]; exact n1
  have q3 : ∀ N g B W, At1 N g B W (s2.d 100000) → Calls Try.prog 16 #[.pointer (some ⟨g, 0, none⟩), .string ⟨#[108, 111, 103]⟩] W fun e w' => e = .returned (.tuple #[.slice none 0 0, .int .i64 24]) ∧ Below W.heap.size W w' :=
    fun N g B W h => h.open_spoilt fn (by decide) x (read_some l2 n2) _ _ _ hsc
  have q4 : Tells 100000 17 (fun g => #[.pointer (some ⟨g, 0, none⟩), .string ⟨#[108, 111, 103]⟩]) (.tuple #[.string x, .int .i64 0]) s2 := o_read l2 n2
  have cw : ∀ i (h : i < l0.length) W, Calls Try.prog 9 #[.string l0[i]] W fun e w' => e = .returned (.string (bstr (frame l0[i].data.toList))) ∧ Below W.heap.size W w' := fun i h W =>
    vedetteref1_Wrap.calls 2100 l0[i] _ W (ref_wrap_f 2100 l0[i] (by have := z0.2 l0[i] (List.getElem_mem h); omega) (by have := z0.2 l0[i] (List.getElem_mem h); omega))
  obtain ⟨r0, hr0, hs0⟩ := same_f (l0.take k) (l0.take k) (by rw [List.length_take]; omega)
  obtain rfl : true = r0 := (hs0 rfl).symm
  have hwz : ((wh == 0) = false) ∨ True := .inr trivial
  have hlz : decide ((l0.length : Int) < 2) = false := decide_eq_false (by omega)
  have hbz : (by_ == 0) = false := beq_eq_false_iff_ne.mpr hby0
  have hkm : wh.tmod ((l0.length : Int) - 1) = (k : Int) := by rw [Int.tmod_eq_emod_of_nonneg hwh.1, hkk]
  have hwh1 := hwh.1
  have hwh2 := hwh.2
  clear hsc hs0 P hscan e0 e1 e2 m0 l1 n1 k1 l2 n2 hwz
  go_enter Try.func4, Try.ntmps4
  go_wp2_with (first
    | (go_at_call 7; with_reducible refine hk.mono ?_; rintro e w1 ⟨rfl, hb1⟩)
    | (go_at_call 8; with_reducible refine (f0 w1 hb1).mono ?_; rintro e w2 ⟨rfl, hb2⟩; have H2 := Mine.step_below hb1 hb2))
  go_loopw [10, 11, 12] (fun v10 v11 v12 wr => ∃ i : Nat, i ≤ l0.length ∧ v12 = .int .i64 (i : Int) ∧ v10 = .string (bstr (Sp l0 k j (UInt8.ofNat v) i)) ∧ v11 = .int .i64 (hd l0 k i) ∧ Below w.heap.size w wr)
    (fun _ _ v12 _ => l0.length - (intOf v12).toNat)
  case atStart => exact ⟨0, by omega, rfl, by unfold Sp; rw [if_pos (by omega)]; rfl, by unfold hd; rw [if_pos (by omega)], H2⟩
  case round =>
    obtain ⟨i, hi, rfl, rfl, rfl, HBi⟩ := hrel
    by_cases hlt : i < l0.length
    · have hltz : decide ((i : Int) < (l0.length : Int)) = true := decide_eq_true (by omega)
      obtain ⟨ax, rfl, hc, hxb⟩ := row_at Q0 HBi hlt
      have Q := cw i hlt wr
      have hfi := frame_le l0[i] (hz2 _ (List.getElem_mem hlt))
      have hfi1 := frame_pos l0[i].data.toList
      have hSi := hSl i
      rcases Nat.lt_trichotomy i k with hik | hik | hik
      · have hne : ((i : Int) == (k : Int)) = false := beq_eq_false_iff_ne.mpr (by omega)
        have hhd : hd l0 k i = hd l0 k (i + 1) := by unfold hd; rw [if_pos (by omega), if_pos (by omega)]
        have ct : bstr (Sp l0 k j (UInt8.ofNat v) i) ++ bstr (frame l0[i].data.toList) = bstr (Sp l0 k j (UInt8.ofNat v) (i + 1)) := by rw [bstr_cat, Sp_lt l0 k j _ i hlt hik]
        obtain ⟨f, hf2⟩ : ∃ f, f = bstr (frame l0[i].data.toList) := ⟨_, rfl⟩
        have hfs : f.size ≤ 214 := by rw [hf2, bstr_size]; exact hfi
        have hcs : (bstr (Sp l0 k j (UInt8.ofNat v) i)).size + f.size ≤ 9223372036854775807 := by rw [bstr_size]; omega
        rw [← hf2] at Q ct
        have kb := fun W => print_bytes (P := Try.prog) 9 27 5 Try.underlying9 Try.underlying27 Try.underlying5 f W
        have kq : ∀ W, (convert 27 9 (.slice (some ⟨W.heap.size, 0, none⟩) f.size (grownCap W f.size 0 5))).run Try.prog (Lib.bytesWorld W 5 f) = .ok (.string f) (Lib.bytesWorld W 5 f) := fun W => by
          have := string_of_reads (P := Try.prog) (c := grownCap W f.size 0 5) Try.underlying27 Try.underlying5 Try.underlying9 (bytes_reads W 5 f (by omega))
          rwa [bytes_self] at this
        clear cw hf2 hfi hSi hSl hfi1
        go_wp2_with (first
          | (go_at_call 9; with_reducible refine Q.mono ?_; rintro e w4 ⟨rfl, hb4⟩; have H4 := Mine.step_below HBi hb4))
        exact ⟨⟨i + 1, by omega, by simp, by rw [← ct], by rw [← hhd], bytes_below H4 H4.size 5 f⟩, by simp [intOf]; omega⟩
      · subst hik
        have hee : ((i : Int) == (i : Int)) = true := beq_iff_eq.mpr rfl
        have ct : bstr (Sp l0 i j (UInt8.ofNat v) i) ++ bstr (fk.set j (UInt8.ofNat v)) = bstr (Sp l0 i j (UInt8.ofNat v) (i + 1)) := by rw [bstr_cat, ← hfk, Sp_eq l0 i j _ hlt]
        have hhd : ((bstr (Sp l0 i j (UInt8.ofNat v) i)).size : Int) = hd l0 i (i + 1) := by
          rw [bstr_size]; unfold hd Sp; rw [if_pos (by omega), if_neg (by omega)]
        rw [hfk] at Q
        obtain ⟨f, hf2⟩ : ∃ f, f = bstr fk := ⟨_, rfl⟩
        obtain ⟨y, hy⟩ : ∃ y, y = bstr (fk.set j (UInt8.ofNat v)) := ⟨_, rfl⟩
        have hfs : f.size = fk.length := by rw [hf2, bstr_size]
        have hys : y.size ≤ 214 := by rw [hy, bstr_size, List.length_set]; omega
        have hcs : (bstr (Sp l0 i j (UInt8.ofNat v) i)).size + y.size ≤ 9223372036854775807 := by rw [bstr_size]; omega
        have kp := fun W => Mine.conv_put (P := Try.prog) W 5 27 9 Try.underlying27 Try.underlying5 Try.underlying9 f (by omega) j (by omega) (v : Int) (grownCap W f.size 0 5)
        have hyy : strOfNums ((bytesOf f).set j (v : Int)) = y := by rw [strOfNums_set, hf2, bstr_list, Int.toNat_natCast, hy]
        rw [hyy] at kp
        have hce := fun W => Mine.conv_cell W 5 f j (by omega) (by omega)
        have hfr := fun W => Mine.conv_frozen W 5 f j (by omega)
        rw [← hf2] at Q hv
        rw [← hy] at ct
        have kb := fun W => print_bytes (P := Try.prog) 9 27 5 Try.underlying9 Try.underlying27 Try.underlying5 f W
        obtain ⟨c, hc2⟩ : ∃ c, bt f j = c := ⟨_, rfl⟩
        rw [hc2] at hce hv
        rw [← hfs] at hj
        have hf5 : 5 ≤ f.size ∧ f.size ≤ 214 := by omega
        obtain ⟨hf5, hf6⟩ := hf5
        have hat1 := hat.1
        have hat2 := hat.2
        have hjf : j < f.size := by omega
        clear cw hf2 hfi hSi hSl hfi1 hyy hy hc2 hfz hfs hj1 hj2 hjb hfk hv2
        go_wp2_with (first
          | (go_at_call 9; with_reducible refine Q.mono ?_; rintro e w4 ⟨rfl, hb4⟩; have H4 := Mine.step_below HBi hb4))
        exact ⟨⟨i + 1, by omega, by simp, rfl, rfl, Mine.below_conv H4 H4.size 5 f j _⟩, by simp [intOf]; omega⟩
      · have hne : ((i : Int) == (k : Int)) = false := beq_eq_false_iff_ne.mpr (by omega)
        have hhd : hd l0 k i = hd l0 k (i + 1) := by unfold hd; rw [if_neg (by omega), if_neg (by omega)]
        have ct : bstr (Sp l0 k j (UInt8.ofNat v) i) ++ bstr (frame l0[i].data.toList) = bstr (Sp l0 k j (UInt8.ofNat v) (i + 1)) := by rw [bstr_cat, Sp_gt l0 k j _ i hlt hik]
        obtain ⟨f, hf2⟩ : ∃ f, f = bstr (frame l0[i].data.toList) := ⟨_, rfl⟩
        have hfs : f.size ≤ 214 := by rw [hf2, bstr_size]; exact hfi
        have hcs : (bstr (Sp l0 k j (UInt8.ofNat v) i)).size + f.size ≤ 9223372036854775807 := by rw [bstr_size]; omega
        rw [← hf2] at Q ct
        have kb := fun W => print_bytes (P := Try.prog) 9 27 5 Try.underlying9 Try.underlying27 Try.underlying5 f W
        have kq : ∀ W, (convert 27 9 (.slice (some ⟨W.heap.size, 0, none⟩) f.size (grownCap W f.size 0 5))).run Try.prog (Lib.bytesWorld W 5 f) = .ok (.string f) (Lib.bytesWorld W 5 f) := fun W => by
          have := string_of_reads (P := Try.prog) (c := grownCap W f.size 0 5) Try.underlying27 Try.underlying5 Try.underlying9 (bytes_reads W 5 f (by omega))
          rwa [bytes_self] at this
        clear cw hf2 hfi hSi hSl hfi1
        go_wp2_with (first
          | (go_at_call 9; with_reducible refine Q.mono ?_; rintro e w4 ⟨rfl, hb4⟩; have H4 := Mine.step_below HBi hb4))
        exact ⟨⟨i + 1, by omega, by simp, by rw [← ct], by rw [← hhd], bytes_below H4 H4.size 5 f⟩, by simp [intOf]; omega⟩
    · obtain rfl : i = l0.length := by omega
      have hltz : decide ((l0.length : Int) < (l0.length : Int)) = false := decide_eq_false (by omega)
      rw [← hx]
      have hhd : hd l0 k l0.length = (((Fr (l0.take k)).length : Nat) : Int) := by unfold hd; rw [if_neg (by omega)]
      rw [hhd]
      have hkle : k ≤ l0.length := by omega
      have hkle2 : k ≤ c0 := by omega
      have RK : ∀ W, Below w.heap.size w W → Rd W A0 k c0 (l0.take k) := fun W hb => by
        have h1 : ReadsOf Value.string ByteArray.empty w A0 (l0.take k).length (l0.take k) := by
          refine ⟨rfl, by rw [List.length_take]; omega, fun hp => ?_⟩
          obtain ⟨ad, e, hc⟩ := Q0.2.2 (by omega)
          refine ⟨ad, e, fun j' hj' => ?_⟩
          rw [List.length_take] at hj'
          rw [hc j' (by omega)]
          simp only [List.getD_eq_getElem?_getD, List.getElem?_take, if_pos (show j' < k by omega)]
        have h3 := (Rd.of h1 (by rw [List.length_take]; omega : (l0.take k).length ≤ c0)).on hb
        exact ⟨by rw [List.length_take]; omega, h3.2⟩
      have G := fun W A n c (h : Rd W A n c (l0.take k)) (hb : Below w.heap.size w W) => eqs_calls h (RK W hb) hr0
      have hlk : (l0.take k).length = k := by rw [List.length_take]; omega
      clear cw hSl hhd hx RK
      go_wp2_with (first
        | (go_at_call 13; with_reducible refine (HN _).mono ?_; rintro e w3 ⟨rfl, HD3, hb3⟩; have H3 := Mine.step_below HBi hb3)
        | (go_at_call 14; with_reducible refine (q1 _ _ _ _ HD3).mono ?_; rintro e w4 ⟨rfl, HD4, hb4, hs4⟩; have H4 := H3.trans (hb4.mono HBi.size))
        | (go_at_call 15; with_reducible refine (q2 _ _ _ _ HD4).mono ?_; rintro e w5 ⟨rfl, HD5, hb5, hs5⟩; have H5 := H4.trans (hb5.mono HBi.size))
        | (go_at_call 11; with_reducible refine (csc _).mono ?_; rintro e w6 ⟨v6, rfl, hR6, hb6⟩; have H6 := Mine.step_below H5 hb6; have HD6 := HD5.on hb6; have hRow := row_new (N := fun _ => False) hR6; obtain ⟨a6, c6, rfl⟩ := hRow.slice; have R6 : Rd w6 a6 k c6 (l0.take k) := rd_len hRow.rd hlk.symm)
        | (go_at_call 16; with_reducible refine (q3 _ _ _ _ HD6).mono ?_; rintro e w7 ⟨rfl, hb7⟩; have H7 := Mine.step_below H6 hb7; have HD7 := HD6.on hb7)
        | (go_at_call 17; with_reducible refine (q4 _ _ _ _ HD7).mono ?_; rintro e w8 ⟨rfl, rfl⟩)
        | (go_at_call 12; with_reducible refine (G _ _ _ _ (R6.on hb7) H7).mono ?_; rintro e w9 ⟨rfl, hb9⟩; have H9 := Mine.step_below H7 hb9))
      go_ret
      exact ⟨by simp, H9⟩

theorem vedettelaw21_JournalSpoilt.walk (P : vedettelaw21_JournalSpoilt.Pure) (a0 : Option Addr) (len0 cap0 : Nat) (z0 : List ByteArray) (a1 a2 a3 : Int) (w : World)
    (w0 : (a0 = none ∧ len0 = 0 ∧ cap0 = 0 ∧ z0 = []) ∨ ∃ x, a0 = some x ∧ len0 ≤ cap0 ∧ cap0 ≤ maxLen ∧ z0.length = cap0 ∧ (∀ i, i < z0.length → w.cell? (x.add i) = some (.string (z0.getD i ByteArray.empty))) ∧ ∀ s ∈ z0, s.size ≤ maxLen) (y0 : len0 * 16 ≤ 140737488351232)
    (w1 : (Lit.int .u8 a1).wf = true) (w2 : (Lit.int .u8 a2).wf = true) (w3 : (Lit.int .u8 a3).wf = true) :
    Calls Try.prog 4 #[.slice a0 len0 cap0, .int .u8 a1, .int .u8 a2, .int .u8 a3] w fun e w' => e = .returned (.bool true) ∧ Below w.heap.size w w' := by
  obtain ⟨l0, rfl, hr0, hm0, hw0, hc0⟩ := Mine.ofRowS w0
  obtain ⟨f0, hf0, hz0⟩ := few_f l0 (by omega)
  by_cases h : f0 = false ∨ l0.length < 2 ∨ a3 = 0
  · exact early_spoilt a0 _ _ l0 a1 a2 a3 w (Rd.of hr0 hc0) f0 hf0 h
  · obtain rfl : f0 = true := by cases f0 with | false => exact absurd (.inl rfl) h | true => rfl
    exact main_spoilt P a0 cap0 l0 a1 a2 a3 w (wf_u8 w1) (wf_u8 w2) (wf_u8 w3) (fun e => h (.inr (.inr e))) hr0 hc0 hf0 (hz0 rfl) (by omega)

end Go.Proofs.Ytbaefdodchgbkaa.Print
