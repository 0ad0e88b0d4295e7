/- Rows of appends to one file, and what stays of them: plain. -/
import Derived.Test.YtocaihmadififaaDiskI
import Derived.Test.YtocaihmadififaaStrs
namespace Go.Proofs.Ytocaihmadififaa.Dk
set_option linter.unusedVariables false
set_option linter.unusedSimpArgs false

def cat : List ByteArray → ByteArray
  | [] => ByteArray.empty
  | b :: r => b ++ cat r
theorem cat_append (l : List ByteArray) (b : ByteArray) : cat (l ++ [b]) = cat l ++ b := by
  induction l with
  | nil => simp [cat]
  | cons a r ih => simp only [List.cons_append, cat, ih, ByteArray.append_assoc]
def S.ap (s : S) (b : ByteArray) : S := s.wr (s.cur ++ b) (b, false)
def gat (s : S) (l : List ByteArray) : S := l.foldl S.ap s
theorem gat_append (s : S) (l : List ByteArray) (b : ByteArray) : gat s (l ++ [b]) = (gat s l).ap b := by simp [gat]
def Sum (l : List ByteArray) : Nat := (cat l).size
/-- What a row of appends leaves. -/
structure Gat (s t : S) (bs : List ByteArray) : Prop where
  ko : t.ko = s.ko
  kn : t.kn = s.kn
  nn : t.nn = s.nn + bs.length
  steps : t.steps = s.steps + bs.length
  left : t.left = s.left
  l : t.l = s.l ++ bs.map (·, false)
  cur : t.cur = s.cur ++ cat bs
  no : t.no = if bs = [] then s.no else some t.cur
theorem gat_of : ∀ (bs : List ByteArray) {s : S}, s.left = -1 → Gat s (gat s bs) bs
  | [], s, hl => ⟨rfl, rfl, rfl, by show s.steps = s.steps + 0; omega, rfl, by simp [gat], by simp [gat, cat], rfl⟩
  | b :: r, s, hl => by
    have hl2 : (s.ap b).left = -1 := by
      show (if s.left > 0 then s.left - 1 else s.left) = -1
      rw [if_neg (by omega)]; exact hl
    obtain ⟨h1, h2, h3, h4, h5, h6, h7, h8⟩ := gat_of r hl2
    refine ⟨h1, h2, ?_, ?_, h5.trans (hl2.trans hl.symm), ?_, ?_, ?_⟩
    · show (gat (s.ap b) r).nn = _
      rw [h3, List.length_cons]; show s.nn + 1 + r.length = _; omega
    · show (gat (s.ap b) r).steps = _
      rw [h4, List.length_cons]; show s.steps + 1 + r.length = _; omega
    · show (gat (s.ap b) r).l = _
      rw [h6]; show (s.l ++ [(b, false)]) ++ _ = _; simp
    · show (gat (s.ap b) r).cur = _
      rw [h7]; show (s.cur ++ b) ++ cat r = s.cur ++ (b ++ cat r); rw [ByteArray.append_assoc]
    · show (gat (s.ap b) r).no = _
      rw [if_neg (by simp), h8]
      split
      · rename_i e; subst e; rfl
      · rfl
theorem sumS_map (l : List ByteArray) : sumS (l.map (·, false)) = (cat l).size := by
  induction l with
  | nil => rfl
  | cons b r ih => simp only [List.map_cons, sumS, cat, ByteArray.size_append, ih]
theorem cat_le (c : Nat) : ∀ l : List ByteArray, (∀ b ∈ l, b.size ≤ c) → (cat l).size ≤ l.length * c
  | [], _ => by simp [cat]
  | b :: r, h => by
    have h1 := h b (by simp)
    have h2 := cat_le c r (fun x hx => h x (by simp [hx]))
    simp only [cat, ByteArray.size_append, List.length_cons, Nat.add_mul]
    omega

/-- What stays of a row of appends is a beginning of it. -/
theorem play_stuck (keep : Int) : ∀ (l : List (ByteArray × Bool)) (i : Nat) (m : Option ByteArray), play keep i m true l = m
  | [], _, _ => rfl
  | p :: r, i, m => by simp only [play, play1, Bool.true_or, if_true]; exact play_stuck keep r (i + 1) m
theorem ba_ext {s t : ByteArray} (h : s.data.toList = t.data.toList) : s = t := toList_inj h
def Pre (p q : ByteArray) : Prop := p.data.toList <+: q.data.toList
theorem half_pre (b : ByteArray) : Pre (half b) b := by
  unfold Pre half
  rw [ByteArray.data_extract, Array.toList_extract]
  simp only [List.extract_eq_take_drop, Nat.sub_zero, List.drop_zero]
  exact List.take_prefix _ _
theorem data_cat (a b : ByteArray) : (a ++ b).data.toList = a.data.toList ++ b.data.toList := by
  rw [ByteArray.data_append, Array.toList_append]
theorem pre_append (a p q : ByteArray) (h : Pre p q) : Pre (a ++ p) (a ++ q) := by
  unfold Pre at *
  rw [data_cat, data_cat]
  exact (List.prefix_append_right_inj _).2 h
theorem pre_left (p q r : ByteArray) (h : Pre p q) : Pre p (q ++ r) := by
  unfold Pre at *
  rw [data_cat]
  exact h.trans (List.prefix_append _ _)
theorem pre_trans {p q r : ByteArray} (h : Pre p q) (k : Pre q r) : Pre p r := List.IsPrefix.trans h k
theorem pre_nil (q : ByteArray) : Pre ByteArray.empty q := List.nil_prefix
theorem pre_refl (q : ByteArray) : Pre q q := List.prefix_refl _
theorem play_pre (keep : Int) : ∀ (l : List ByteArray) (i : Nat) (m : Option ByteArray) (st : Bool),
    (∀ v, play keep i m st (l.map (·, false)) = some v → Pre (m.getD ByteArray.empty) v ∧ Pre v (m.getD ByteArray.empty ++ cat l)) ∧ (play keep i m st (l.map (·, false)) = none → m = none)
  | [], i, m, st => by
    refine ⟨fun v h => ?_, fun h => h⟩
    simp only [List.map_nil, play] at h
    subst h
    exact ⟨pre_refl _, by simp only [cat, ByteArray.append_empty]; exact pre_refl _⟩
  | b :: r, i, m, true => by
    rw [play_stuck]
    refine ⟨fun v h => ?_, fun h => h⟩
    subst h
    exact ⟨pre_refl _, pre_left _ _ _ (pre_refl _)⟩
  | b :: r, i, m, false => by
    simp only [List.map_cons, play, play1, Bool.and_false, Bool.false_eq_true, if_false, Bool.false_or, Bool.not_false, Bool.true_and]
    cases hb : bitOf keep i with
    | true =>
      simp only [if_true, Bool.not_true]
      obtain ⟨h1, h2⟩ := play_pre keep r (i + 1) (some (m.getD ByteArray.empty ++ b)) false
      refine ⟨fun v h => ?_, fun h => by have := h2 h; cases this⟩
      obtain ⟨h3, h4⟩ := h1 v h
      simp only [Option.getD_some] at h3 h4
      refine ⟨pre_trans (pre_left _ _ _ (pre_refl _)) h3, ?_⟩
      rw [cat, ← ByteArray.append_assoc]
      exact h4
    | false =>
      simp only [Bool.false_eq_true, if_false, Bool.not_false, play_stuck]
      split
      · refine ⟨fun v h => ?_, fun h => by cases h⟩
        cases h
        refine ⟨pre_left _ _ _ (pre_refl _), ?_⟩
        exact pre_append _ _ _ (pre_trans (half_pre b) (pre_left _ _ _ (pre_refl _)))
      · refine ⟨fun v h => ?_, fun h => h⟩
        subst h
        exact ⟨pre_refl _, pre_left _ _ _ (pre_refl _)⟩
theorem pre_size {p q : ByteArray} (h : Pre p q) : p.size ≤ q.size := by
  have := List.IsPrefix.length_le h
  simpa using this
theorem pre_extract {p q : ByteArray} (h : Pre p q) : q.extract 0 p.size = p := by
  apply ba_ext
  rw [ByteArray.data_extract, Array.toList_extract]
  simp only [List.extract_eq_take_drop, Nat.sub_zero, List.drop_zero]
  have := List.prefix_iff_eq_take.1 h
  rw [Array.length_toList] at this
  exact this.symm

open Go.RowKit Go.Maps Go.Proofs.YtocaihmadififaaW.PrintWords
def All (n : Nat) (l : List ByteArray) : Prop := ∀ j (h : j < l.length), j < n → l[j].size ≤ 100
theorem All.mem {l : List ByteArray} {n : Nat} (h : All n l) : ∀ b ∈ l.take n, b.size ≤ 100 := by
  intro b hb
  obtain ⟨j, hj, rfl⟩ := List.getElem_of_mem hb
  rw [List.length_take] at hj
  rw [List.getElem_take]
  exact h j (by omega) (by omega)
/-- One append of a row. -/
theorem gat_step {s : S} (hs : s.left = -1) (l : List ByteArray) (i : Nat) (hi : i < l.length) (hl : l.length ≤ 40) (ha : All (i + 1) l) (hb : 0 ≤ s.steps ∧ s.steps ≤ 1000 ∧ s.nn ≤ 1000 ∧ s.kn ≤ 1000 ∧ s.l.length ≤ 1000 ∧ s.cur.size ≤ 3000) :
    Does 100000 10 (fun g => #[.pointer (some ⟨g, 0, none⟩), .string ⟨#[102]⟩, .string l[i]]) (.int .i64 0) (gat s (l.take i)) (gat s (l.take (i + 1))) := by
  have hz := ha i hi (by omega)
  have hc : (cat (l.take i)).size ≤ (l.take i).length * 100 := cat_le 100 _ (fun b hb => All.mem (n := i) (fun j hj hji => ha j hj (by omega)) b hb)
  have hlt : (l.take i).length = i := by rw [List.length_take]; omega
  rw [hlt] at hc
  obtain ⟨h1, h2, h3, h4, h5, h6, h7, h8⟩ := gat_of (l.take i) hs
  rw [hlt] at h3 h4
  have hcur : (gat s (l.take i)).cur.size ≤ 3000 + i * 100 := by rw [h7, ByteArray.size_append]; omega
  refine o_append ⟨by omega, by omega, by omega, by omega, by omega, by omega, ?_, by omega, by decide, by decide⟩ l[i] (by omega) (by omega) (by rw [ByteArray.size_append]; omega) ?_
  · rw [h6, List.length_append, List.length_map, hlt]; omega
  · rw [List.take_succ_eq_append_getElem hi, gat_append]; rfl

theorem row_at {w wr : World} {A : Option Addr} {l : List ByteArray} (h : ReadsOf Value.string ByteArray.empty w A l.length l) (hB : Below w.heap.size w wr) {j : Nat} (hj : j < l.length) :
    ∃ x, A = some x ∧ wr.cell? (x.add j) = some (.string l[j]) ∧ (x.add j).block < w.heap.size := by
  obtain ⟨x, e, hc⟩ := h.2.2 (by omega)
  have h1 := hc j hj
  rw [List.getD_eq_getElem?_getD, List.getElem?_eq_getElem hj, Option.getD_some] at h1
  have hl := World.block_lt_of_cell? w _ h1
  exact ⟨x, e, (hB.cell hl).trans h1, hl⟩
theorem cat_take {l : List ByteArray} {j : Nat} (hj : j < l.length) : cat (l.take j) ++ l[j] = cat (l.take (j + 1)) := by
  rw [List.take_succ_eq_append_getElem hj, cat_append]


end Go.Proofs.Ytocaihmadififaa.Dk
