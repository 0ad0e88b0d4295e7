/- Appends of one size whose bits are set up to one: plain. -/
import Derived.Test.YtocaihmadififaaDiskJ
namespace Go.Proofs.Ytocaihmadififaa.Dk
set_option linter.unusedVariables false
set_option linter.unusedSimpArgs false

theorem half_nonempty {b : ByteArray} {m : Nat} (hb : b.size = m) (hm : 2 ≤ m) : (half b).toList.isEmpty = false := by
  have h1 : (half b).size = m / 2 := by
    unfold half
    rw [ByteArray.size_extract]
    omega
  have h2 : (half b).toList.length = (half b).size := by rw [ByteArray.toList_eq, Array.length_toList]; rfl
  cases e : (half b).toList with
  | nil => rw [e] at h2; simp at h2; omega
  | cons x r => rfl
theorem half_len {b : ByteArray} {m : Nat} (hb : b.size = m) : (half b).size = m / 2 := by
  unfold half
  rw [ByteArray.size_extract]
  omega
/-- What stays: the first f of them, and half of the next. -/
def first (l : List ByteArray) (f : Nat) : ByteArray := if h : f < l.length then cat (l.take f) ++ half l[f] else cat l
theorem play_first (keep : Int) (m : Nat) (hm : 2 ≤ m) : ∀ (l : List ByteArray) (i f : Nat) (ko : Option ByteArray), l ≠ [] → (∀ b ∈ l, b.size = m) → f ≤ l.length → (∀ j, j < f → bitOf keep (i + j) = true) → (f < l.length → bitOf keep (i + f) = false) →
    play keep i ko false (l.map (·, false)) = some (ko.getD ByteArray.empty ++ first l f)
  | [], _, _, _, hn, _, _, _, _ => absurd rfl hn
  | b :: r, i, f, ko, _, hs, hf, h1, h2 => by
    simp only [List.map_cons, play, play1, Bool.and_false, Bool.false_eq_true, if_false, Bool.false_or, Bool.not_false, Bool.true_and]
    cases f with
    | zero =>
      have hb : bitOf keep i = false := h2 (by simp)
      have hh := half_nonempty (hs b (by simp)) hm
      simp only [hb, hh, Bool.false_eq_true, if_false, Bool.not_false, if_true, play_stuck]
      unfold first
      rw [dif_pos (by simp)]
      simp [cat]
    | succ f =>
      have hb : bitOf keep i = true := h1 0 (by omega)
      simp only [hb, if_true, Bool.not_true]
      cases r with
      | nil =>
        have hf0 : f = 0 := by simp at hf; omega
        subst hf0
        simp only [List.map_nil, play]
        unfold first
        rw [dif_neg (by simp)]
        simp [cat]
      | cons c r =>
        rw [play_first keep m hm (c :: r) (i + 1) f (some (ko.getD ByteArray.empty ++ b)) (by simp) (fun x hx => hs x (by simp [hx])) (by simp at hf ⊢; omega)
          (fun j hj => by rw [Nat.add_assoc, Nat.add_comm 1 j]; exact h1 (j + 1) (by omega)) (fun hlt => by rw [Nat.add_assoc, Nat.add_comm 1 f]; exact h2 (by simp at hlt ⊢; omega))]
        simp only [Option.getD_some, ByteArray.append_assoc]
        congr 2
        unfold first
        by_cases hlt : f < (c :: r).length
        · rw [dif_pos hlt, dif_pos (by simp at hlt ⊢; omega)]
          simp only [List.take_succ_cons, cat, List.getElem_cons_succ, ByteArray.append_assoc]
        · rw [dif_neg hlt, dif_neg (by simp at hlt ⊢; omega)]
          rfl
theorem cat_size {m : Nat} : ∀ (l : List ByteArray), (∀ b ∈ l, b.size = m) → (cat l).size = l.length * m
  | [], _ => by simp [cat]
  | b :: r, h => by
    simp only [cat, ByteArray.size_append, h b (by simp), cat_size r (fun x hx => h x (by simp [hx])), List.length_cons, Nat.add_mul]
    omega
theorem first_pre (l : List ByteArray) (f : Nat) : Pre (first l f) (cat l) := by
  unfold first
  split
  · rename_i h
    have e : cat l = cat (l.take f) ++ (l[f] ++ cat (l.drop (f + 1))) := by
      have h2 : l = l.take f ++ l[f] :: l.drop (f + 1) := by rw [← List.drop_eq_getElem_cons h, List.take_append_drop]
      have h3 : ∀ x y : List ByteArray, cat (x ++ y) = cat x ++ cat y := by
        intro x y
        induction x with
        | nil => simp [cat]
        | cons a x ih => simp only [List.cons_append, cat, ih, ByteArray.append_assoc]
      have h4 := congrArg cat h2
      rw [h3] at h4
      exact h4
    rw [e]
    exact pre_append _ _ _ (pre_left _ _ _ (half_pre _))
  · exact pre_refl _
theorem first_extract {l : List ByteArray} {f m : Nat} (hs : ∀ b ∈ l, b.size = m) (hf : f < l.length) : (cat l).extract 0 (f * m + m / 2) = first l f := by
  have h1 : (first l f).size = f * m + m / 2 := by
    unfold first
    rw [dif_pos hf, ByteArray.size_append, half_len (hs _ (List.getElem_mem hf)), cat_size _ (fun b hb => hs b (List.mem_of_mem_take hb)), List.length_take, Nat.min_eq_left (by omega)]
  rw [← h1]
  exact pre_extract (first_pre l f)

/-! ### The bytes -/
def chn (n : Nat) : UInt8 := UInt8.ofNat (97 + n % 26)
def pat (i m : Nat) : ByteArray := ⟨((List.range m).map (fun j => chn (i + j))).toArray⟩
theorem pat_size (i m : Nat) : (pat i m).size = m := by simp [pat, ByteArray.size]
theorem pat_next (i m : Nat) : pat i m ++ ⟨#[chn (i + m)]⟩ = pat i (m + 1) := by
  apply ba_ext
  rw [data_cat]
  simp [pat, List.range_succ]
def pats (m k : Nat) : List ByteArray := (List.range k).map (fun i => pat i m)
theorem pats_len (m k : Nat) : (pats m k).length = k := by simp [pats]
theorem pats_at (m k i : Nat) (h : i < (pats m k).length) : (pats m k)[i] = pat i m := by simp [pats]
theorem pats_size (m k : Nat) : ∀ b ∈ pats m k, b.size = m := by
  intro b hb
  obtain ⟨i, _, rfl⟩ := List.mem_map.1 hb
  exact pat_size i m

end Go.Proofs.Ytocaihmadififaa.Dk
