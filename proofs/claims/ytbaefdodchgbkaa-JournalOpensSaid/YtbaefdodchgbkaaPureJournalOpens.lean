/- Behind a loss of power all that was written is there, and the one under way whole or not at all: the plain law of JournalOpens. -/
import Derived.Test.YtbaefdodchgbkaaWalkJournalOpens
import Derived.Test.YtbaefdodchgbkaaJourC
namespace Go.Proofs.Ytbaefdodchgbkaa.Pure
open Go.Proofs.Ytbaefdodchgbkaa.Print Go.Proofs.Ytbaefdodchgbkaa.Dk Go.Proofs.Ytbaefdodchgbkaa.Num

/-- The disk behind so many writes. -/
def T (l : List ByteArray) : Nat → S
  | 0 => ⟨none, none, 0, 0, [], 0, -1⟩
  | i + 1 => ⟨some (bstr (Fr (l.take (i + 1)))), some (bstr (Fr (l.take (i + 1)))), i + 1, i + 1, [], 2 * ((i : Int) + 1), -1⟩
theorem T_at (l : List ByteArray) (i : Nat) : (T l i).cur = bstr (Fr (l.take i)) ∧ (T l i).ko = (T l i).no ∧ (T l i).kn = i ∧ (T l i).nn = i ∧ (T l i).l = [] ∧ (T l i).steps = 2 * (i : Int) ∧ (T l i).left = -1 := by
  cases i with
  | zero => exact ⟨rfl, rfl, rfl, rfl, rfl, rfl, rfl⟩
  | succ i => exact ⟨rfl, rfl, rfl, rfl, rfl, by show 2 * ((i : Int) + 1) = _; omega, rfl⟩
theorem FW_cat (x : List UInt8) (b : ByteArray) : bstr x ++ FW b = bstr (x ++ frame b.data.toList) := bstr_cat _ _
theorem half_frame (b : ByteArray) : half (FW b) = bstr ((frame b.data.toList).take ((frame b.data.toList).length / 2)) := by
  refine Num.ba_ext ?_
  unfold half
  rw [Lib.extract_data, FW_size]
  simp [FW, bstr_list]
theorem half_some (b : ByteArray) : (half (FW b)).toList.isEmpty = false := by
  have hp := frame_pos b.data.toList
  rw [half_frame, Num.toList_eq, bstr_list]
  cases e : (frame b.data.toList).take ((frame b.data.toList).length / 2) with
  | nil => have := congrArg List.length e; rw [List.length_take, List.length_nil] at this; omega
  | cons x r => rfl

theorem JournalOpens : vedettelaw21_JournalOpens.Pure := by
  intro l more last k keep hk3 hl hz hm hla hk0 hk1
  have hz2 : ∀ t ∈ l, t.size ≤ 200 := fun t ht => Nat.le_trans (hz t ht) (by decide)
  have hzt : ∀ i, ∀ t ∈ l.take i, t.size ≤ 200 := fun i t ht => hz2 t (List.mem_of_mem_take ht)
  have hza : ∀ t ∈ l ++ [more], t.size ≤ 200 := fun t ht => by
    rcases List.mem_append.1 ht with h | h
    · exact hz2 t h
    · obtain rfl : t = more := by simpa using h
      omega
  have fl : ∀ i, (Fr (l.take i)).length ≤ 2140 := fun i => by
    have := Fr_le (l.take i) (hzt i)
    rw [List.length_take] at this
    omega
  have fm := frame_le more (by omega)
  have fla := frame_le last (by omega)
  have sm : ∀ i, i ≤ 10 → (T l i).Sm 100000 := fun i hi => by
    obtain ⟨h1, h2, h3, h4, h5, h6, h7⟩ := T_at l i
    refine ⟨by omega, by omega, by omega, by omega, by omega, by omega, by rw [h5]; decide, by rw [h1, bstr_size]; have := fl i; omega, by decide, by decide⟩
  have q0 : ∀ i (h : i < l.length), Writes 100000 l[i] 0 (T l i) (T l (i + 1)) := by
    intro i hi
    obtain ⟨h1, h2, h3, h4, h5, h6, h7⟩ := T_at l i
    have e : (T l i).cur ++ FW l[i] = bstr (Fr (l.take (i + 1))) := by
      rw [h1, FW_cat, List.take_succ_eq_append_getElem hi, Fr_snoc]
    have f1 := fl (i + 1)
    refine writes_of (sm i (by omega)) l[i] (hz2 _ (List.getElem_mem hi)) ?_ (by rw [e, bstr_size]; omega)
    rw [jwrite_ok (by omega) (by omega) (by rw [e, bstr_size]; omega), e]
    refine congrArg (Prod.mk (0 : Int)) (congrArg (S.d 100000) ?_)
    unfold S.all
    rw [h3, h4, h6, h7]
    show _ = (⟨some (bstr (Fr (l.take (i + 1)))), some (bstr (Fr (l.take (i + 1)))), i + 1, i + 1, [], 2 * ((i : Int) + 1), -1⟩ : S)
    congr 1
  obtain ⟨h1, h2, h3, h4, h5, h6, h7⟩ := T_at l l.length
  rw [List.take_length] at h1
  have smn := sm l.length hl
  have fn_ := fl l.length
  rw [List.take_length] at fn_
  generalize htn : T l l.length = tn at h1 h2 h3 h4 h5 h6 h7 smn
  obtain ⟨s1, e1⟩ : ∃ s, s = ({ tn with left := (k : Int) } : S) := ⟨_, rfl⟩
  have q1 : Does 100000 19 (fun g => #[.pointer (some ⟨g, 0, none⟩), .int .i64 (k : Int)]) (.tuple #[]) tn s1 := o_limit (k : Int) (by omega) e1.symm
  have c1 : s1.cur = bstr (Fr l) := by rw [e1]; exact h1
  have l1 : s1.left = (k : Int) := by rw [e1]
  have g1 : s1.ko = tn.no ∧ s1.no = tn.no ∧ s1.kn = l.length ∧ s1.nn = l.length ∧ s1.l = [] ∧ s1.steps = 2 * (l.length : Int) := by rw [e1]; exact ⟨h2, rfl, h3, h4, h5, h6⟩
  obtain ⟨g1, g2, g3, g4, g5, g6⟩ := g1
  have m1 : s1.Sm 100000 := ⟨by omega, by omega, by omega, by omega, by omega, by omega, by rw [g5]; decide, by rw [c1, bstr_size]; omega, by decide, by decide⟩
  have kd : s1.ko.getD ByteArray.empty = bstr (Fr l) := by rw [g1, ← g2]; exact c1
  have ec : s1.cur ++ FW more = bstr (Fr (l ++ [more])) := by rw [c1, FW_cat, Fr_snoc]
  have es : (bstr (Fr (l ++ [more]))).size ≤ 2400 := by rw [bstr_size, Fr_snoc, List.length_append]; omega
  have fin : ∀ (s2 s3 s4 : S) (e : Int) (a : List ByteArray), Writes 100000 more e s1 s2 → Does 100000 20 (fun g => #[.pointer (some ⟨g, 0, none⟩), .int .u64 keep]) (.tuple #[]) s2 s3 → Opens 100000 a s3 s4 →
      s4.left = -1 → s4.cur = bstr (Fr a) → s4.Sm 100000 → (s4.steps ≤ 300 ∧ s4.nn ≤ 300 ∧ s4.kn ≤ 300 ∧ s4.l.length ≤ 300) → (a = l ++ [more] ∨ a = l) → ((k = 2 ∧ e = 0 ∧ a = l ++ [more]) ∨ (k ≠ 2 ∧ e = 22 ∧ (a = l ++ [more] ∨ a = l))) →
      ∃ (T : Nat → S) (s1 s2 s3 s4 s5 s6 : S) (e : Int) (a : List ByteArray), T 0 = ⟨none, none, 0, 0, [], 0, -1⟩ ∧ (∀ i (h : i < l.length), Writes 100000 l[i] 0 (T i) (T (i + 1))) ∧
        Does 100000 19 (fun g => #[.pointer (some ⟨g, 0, none⟩), .int .i64 (k : Int)]) (.tuple #[]) (T l.length) s1 ∧
        Writes 100000 more e s1 s2 ∧ Does 100000 20 (fun g => #[.pointer (some ⟨g, 0, none⟩), .int .u64 keep]) (.tuple #[]) s2 s3 ∧ Opens 100000 a s3 s4 ∧
        Writes 100000 last 0 s4 s5 ∧ Opens 100000 (a ++ [last]) s5 s6 ∧ ((k = 2 ∧ e = 0 ∧ a = l ++ [more]) ∨ (k ≠ 2 ∧ e = 22 ∧ (a = l ++ [more] ∨ a = l))) := by
    intro s2 s3 s4 e a q2 q3 q4 l4 c4 m4 b4 ha hend
    have haz : (∀ t ∈ a, t.size ≤ 200) ∧ a.length ≤ 11 := by
      rcases ha with rfl | rfl
      · exact ⟨hza, by simp; omega⟩
      · exact ⟨hz2, by omega⟩
    have fa := Fr_le a haz.1
    have e4 : s4.cur ++ FW last = bstr (Fr (a ++ [last])) := by rw [c4, FW_cat, Fr_snoc]
    have e4s : (bstr (Fr (a ++ [last]))).size ≤ 3000 := by rw [bstr_size, Fr_snoc, List.length_append]; omega
    have q5 : Writes 100000 last 0 s4 (s4.all (bstr (Fr (a ++ [last])))) := writes_of m4 last (by omega) (by rw [jwrite_ok (by omega) (by omega) (by rw [e4]; omega), e4]) (by rw [e4]; omega)
    have l5 : (s4.all (bstr (Fr (a ++ [last])))).left = -1 := by show dn (dn s4.left) = -1; rw [l4]; rfl
    have c5 : (s4.all (bstr (Fr (a ++ [last])))).cur = bstr (Fr (a ++ [last])) := rfl
    have m5 : (s4.all (bstr (Fr (a ++ [last])))).Sm 100000 := by
      have := m4.s0
      refine ⟨?_, ?_, by omega, by omega, ?_, ?_, ?_, by rw [c5]; omega, by decide, by decide⟩
      · show 0 ≤ s4.steps + 2; omega
      · show s4.steps + 2 ≤ _; omega
      · show s4.nn + 1 ≤ _; omega
      · show s4.kn + 1 ≤ _; omega
      · show 0 ≤ _; omega
    have hzl : ∀ t ∈ a ++ [last], t.size ≤ 200 := fun t ht => by
      rcases List.mem_append.1 ht with h | h
      · exact haz.1 t h
      · obtain rfl : t = last := by simpa using h
        omega
    obtain ⟨s6, q6, _⟩ := opens_of m5 l5 (by rw [c5]; omega) (l := a ++ [last]) (n := (Fr (a ++ [last])).length) (by rw [c5, bstr_list]; exact scan_all _ hzl) (by rw [c5, bstr_size]; exact Nat.le_refl _)
    exact ⟨T l, s1, s2, s3, s4, _, s6, e, a, rfl, q0, by rw [htn]; exact q1, q2, q3, q4, q5, q6, hend⟩
  rcases (show k = 0 ∨ k = 1 ∨ k = 2 by omega) with rfl | rfl | rfl
  · have q2 : Writes 100000 more 22 s1 s1 := writes_of m1 more (by omega) (jwrite_off l1) (by rw [ec]; omega)
    obtain ⟨s3, s4, q3, q4, l4, c4, m4, b4⟩ := crash_opens keep hk0 hk1 m1 ⟨by omega, by omega, by omega, by rw [g5]; decide⟩ (by rw [kd, g5, bstr_size]; show _ + 0 ≤ _; omega) l [] hz2 scan_nil (by rw [g5, List.append_nil]; exact kd)
    exact fin _ _ _ _ _ q2 q3 q4 l4 c4 m4 b4 (.inr rfl) (.inr ⟨by decide, rfl, .inr rfl⟩)
  · have q2 : Writes 100000 more 22 s1 (s1.wr (s1.cur ++ FW more) (FW more, false)) := writes_of m1 more (by omega) (jwrite_one l1 (by rw [ec]; omega)) (by rw [ec]; omega)
    have m2 : (s1.wr (s1.cur ++ FW more) (FW more, false)).Sm 100000 := by
      refine ⟨?_, ?_, ?_, ?_, ?_, ?_, ?_, ?_, by decide, by decide⟩
      · show 0 ≤ s1.steps + 1; omega
      · show s1.steps + 1 ≤ _; omega
      · show -1 ≤ (if s1.left > 0 then s1.left - 1 else s1.left); split <;> omega
      · show (if s1.left > 0 then s1.left - 1 else s1.left) ≤ _; split <;> omega
      · show s1.nn + 1 ≤ _; omega
      · show s1.kn ≤ _; omega
      · show (s1.l ++ [_]).length ≤ _; rw [g5]; simp
      · show (s1.cur ++ FW more).size ≤ _; rw [ec]; omega
    have b2 : (s1.wr (s1.cur ++ FW more) (FW more, false)).steps ≤ 100 ∧ (s1.wr (s1.cur ++ FW more) (FW more, false)).nn ≤ 100 ∧ (s1.wr (s1.cur ++ FW more) (FW more, false)).kn ≤ 100 ∧ (s1.wr (s1.cur ++ FW more) (FW more, false)).l.length ≤ 100 := by
      refine ⟨?_, ?_, ?_, ?_⟩
      · show s1.steps + 1 ≤ _; omega
      · show s1.nn + 1 ≤ _; omega
      · show s1.kn ≤ _; omega
      · show (s1.l ++ [_]).length ≤ _; rw [g5]; simp
    have z2 : ((s1.wr (s1.cur ++ FW more) (FW more, false)).ko.getD ByteArray.empty).size + sumS (s1.wr (s1.cur ++ FW more) (FW more, false)).l ≤ 50000 := by
      show (s1.ko.getD ByteArray.empty).size + sumS (s1.l ++ [(FW more, false)]) ≤ _
      rw [kd, g5, bstr_size]
      show _ + ((FW more).size + 0) ≤ _
      rw [FW_size]; omega
    cases hb : bitOf keep 0 with
    | true =>
      obtain ⟨s3, s4, q3, q4, l4, c4, m4, b4⟩ := crash_opens keep hk0 hk1 m2 b2 z2 (l ++ [more]) [] hza scan_nil (by
        show (play keep 0 s1.ko false (s1.l ++ [(FW more, false)])).getD _ = _
        rw [g5, List.nil_append, List.append_nil, ← ec, c1, ← kd]
        simp [play, play1, hb])
      exact fin _ _ _ _ _ q2 q3 q4 l4 c4 m4 b4 (.inl rfl) (.inr ⟨by decide, rfl, .inl rfl⟩)
    | false =>
      have hp := frame_pos more.data.toList
      obtain ⟨s3, s4, q3, q4, l4, c4, m4, b4⟩ := crash_opens keep hk0 hk1 m2 b2 z2 l ((frame more.data.toList).take ((frame more.data.toList).length / 2)) hz2 (scan_cut _ (by rw [ba_size]; omega) _ (by omega)) (by
        show (play keep 0 s1.ko false (s1.l ++ [(FW more, false)])).getD _ = _
        have hs := half_some more
        rw [g5, List.nil_append, ← bstr_cat, ← half_frame, ← kd]
        simp only [play, play1, hb, hs, Bool.false_eq_true, if_false, Bool.false_and, Bool.not_false, Bool.true_and, if_true]
        rfl)
      exact fin _ _ _ _ _ q2 q3 q4 l4 c4 m4 b4 (.inr rfl) (.inr ⟨by decide, rfl, .inr rfl⟩)
  · have q2 : Writes 100000 more 0 s1 (s1.all (s1.cur ++ FW more)) := writes_of m1 more (by omega) (jwrite_ok (by omega) (by omega) (by rw [ec]; omega)) (by rw [ec]; omega)
    have m2 : (s1.all (s1.cur ++ FW more)).Sm 100000 := by
      have hd : -1 ≤ dn (dn s1.left) ∧ dn (dn s1.left) ≤ 1000 := dn_le (dn_le (by omega))
      refine ⟨?_, ?_, hd.1, hd.2, ?_, ?_, ?_, ?_, by decide, by decide⟩
      · show 0 ≤ s1.steps + 2; omega
      · show s1.steps + 2 ≤ _; omega
      · show s1.nn + 1 ≤ _; omega
      · show s1.kn + 1 ≤ _; omega
      · show 0 ≤ _; omega
      · show (s1.cur ++ FW more).size ≤ _; rw [ec]; omega
    obtain ⟨s3, s4, q3, q4, l4, c4, m4, b4⟩ := crash_opens keep hk0 hk1 m2 (by
      refine ⟨?_, ?_, ?_, ?_⟩
      · show s1.steps + 2 ≤ _; omega
      · show s1.nn + 1 ≤ _; omega
      · show s1.kn + 1 ≤ _; omega
      · show 0 ≤ _; omega) (by show (s1.cur ++ FW more).size + 0 ≤ _; rw [ec]; omega) (l ++ [more]) [] hza scan_nil (by rw [List.append_nil]; show s1.cur ++ FW more = _; exact ec)
    exact fin _ _ _ _ _ q2 q3 q4 l4 c4 m4 b4 (.inl rfl) (.inl ⟨rfl, rfl, rfl⟩)

end Go.Proofs.Ytbaefdodchgbkaa.Pure
