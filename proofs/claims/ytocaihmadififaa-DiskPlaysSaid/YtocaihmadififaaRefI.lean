/- The two disks: bounds that hold along a row of 60 steps. -/
import Derived.Test.YtocaihmadififaaRefH
namespace Go.Proofs.Ytocaihmadififaa.Dk
open Go.RowKit Go.Maps
set_option linter.unusedVariables false
set_option linter.unusedSimpArgs false

structure Bnd (i : Nat) (d : D) (r : R) : Prop where
  ll : r.l.length ≤ i
  pl : r.p.length ≤ i
  sb : sumB r.p ≤ 200 * i
  hs : ∀ f ∈ r.l, f.has.size ≤ 1000000 + 20000 * i
  kp : ∀ f ∈ r.l, f.kept.size ≤ 1000000 + 20000 * i
  pn : ∀ o ∈ r.p, o.name.size ≤ 20
  s0 : 0 ≤ r.steps
  s1 : r.steps ≤ i
  l0 : -1 ≤ r.left
  l1 : r.left ≤ 9223372036854775807
  r0 : 0 ≤ r.room
  r1 : r.room ≤ 1000000
  kn : d.kn + d.pend.length ≤ i
  nn : d.nn ≤ i
theorem sumB_append (a b : List Op) : sumB (a ++ b) = sumB a + sumB b := by
  induction a with
  | nil => simp [sumB]
  | cons x r ih => simp only [List.cons_append, sumB, ih]; omega
theorem sumB_keep (name : ByteArray) (a : List Op) : sumB (keep name a) ≤ sumB a := by
  unfold keep
  induction a with
  | nil => simp
  | cons x r ih =>
    rw [List.filter_cons]
    split
    · simp only [sumB]; omega
    · simp only [sumB]; omega
theorem Bnd.mono {i : Nat} {d : D} {r : R} (h : Bnd i d r) : Bnd (i + 1) d r := by
  obtain ⟨a, b, c, e, f, g, s0, s1, l0, l1, r0, r1, kn, nn⟩ := h
  exact ⟨by omega, by omega, by omega, fun x hx => by have := e x hx; omega, fun x hx => by have := f x hx; omega, g, s0, by omega, l0, l1, r0, r1, by omega, by omega⟩
theorem Bnd.used {i : Nat} {d : D} {r : R} (h : Bnd i d r) (hi : i ≤ 61) : used r.l ≤ 135420000 := by
  rw [← S_used]
  have h1 := S_le_of (s := fun f => f.has.size) (A := 2220000) (l := r.l) (fun f hf => by have := h.hs f hf; omega)
  have h2 := h.ll
  have h3 : r.l.length * 2220000 ≤ 135420000 := by omega
  clear h
  omega
theorem Bnd.ks {i : Nat} {d : D} {r : R} (h : Bnd i d r) (hi : i ≤ 61) : S Dk.ks r.l ≤ 135420000 := by
  have h1 := S_le_of (s := Dk.ks) (A := 2220000) (l := r.l) (fun f hf => by
    have h1 := h.kp f hf
    unfold Dk.ks
    split <;> omega)
  have h2 := h.ll
  have h3 : r.l.length * 2220000 ≤ 135420000 := by omega
  clear h
  omega
theorem Bnd.fitR {i : Nat} {d : D} {r : R} (h : Bnd i d r) (hi : i ≤ 61) : r.Fit := by
  have hu := h.used hi
  obtain ⟨a, b, c, e, f, g, s0, s1, l0, l1, r0, r1, kn, nn⟩ := h
  exact ⟨s0, by omega, l0, l1, r0, r1, by omega, by omega, by omega⟩
theorem Bnd.fitD {i : Nat} {d : D} {r : R} (h : Bnd i d r) (hL : Like d r) (hi : i ≤ 61) : d.Fit := by
  have hu := h.used hi
  obtain ⟨a, b, c, e, f, g, s0, s1, l0, l1, r0, r1, kn, nn⟩ := h
  exact ⟨by rw [hL.steps]; exact s0, by rw [hL.steps]; omega, by rw [hL.left]; exact l0, by rw [hL.left]; exact l1, by rw [hL.room]; exact r0, by rw [hL.room]; exact r1, by omega, by omega, by omega, by rw [hL.nowt]; omega⟩
theorem Bnd.crashD {i : Nat} {d : D} {r : R} (h : Bnd i d r) (hL : Like d r) (hi : i ≤ 61) : d.kept.tot + sumB d.pend ≤ 1000000000 ∧ ∀ o ∈ d.pend, o.name.size ≤ 1152921504606846976 := by
  have hk := h.ks hi
  have hs := h.sb
  rw [hL.kept.tot, hL.pend]
  exact ⟨by omega, fun o ho => by have := h.pn o ho; omega⟩
theorem Bnd.crashR {i : Nat} {d : D} {r : R} (h : Bnd i d r) (hi : i ≤ 61) : (∀ o ∈ r.p, o.name.size ≤ 1152921504606846976) ∧ ∀ f ∈ r.l, f.kept.size + sumB r.p ≤ 1152921504606846976 :=
  ⟨fun o ho => by have := h.pn o ho; omega, fun f hf => by have := h.kp f hf; have := h.sb; omega⟩
theorem step_left {r : R} (l0 : -1 ≤ r.left) (l1 : r.left ≤ 9223372036854775807) : -1 ≤ r.step.left ∧ r.step.left ≤ 9223372036854775807 := by
  unfold R.step
  simp only
  split <;> omega
theorem Bnd.limit {i : Nat} {d : D} {r : R} (h : Bnd i d r) (k : Int) (hk : k ≤ 9223372036854775807) : Bnd (i + 1) (d.limit k) (r.limit k) := by
  obtain ⟨a, b, c, e, f, g, s0, s1, l0, l1, r0, r1, kn, nn⟩ := h.mono
  refine ⟨a, b, c, e, f, g, s0, s1, ?_, ?_, r0, r1, kn, nn⟩
  · show -1 ≤ (if k < 0 then (0 : Int) else k); split <;> omega
  · show (if k < 0 then (0 : Int) else k) ≤ 9223372036854775807; split <;> omega
theorem Bnd.new (room : Int) : Bnd 0 (D.new room) (R.new room) :=
  ⟨Nat.le_refl _, Nat.le_refl _, Nat.le_refl _, fun _ h => (by cases h), fun _ h => (by cases h), fun _ h => (by cases h), by simp [R.new], by simp [R.new], by simp [R.new], by simp [R.new], by simp only [R.new]; omega, by simp only [R.new]; omega, Nat.le_refl _, Nat.le_refl _⟩
theorem Bnd.sync {i : Nat} {d : D} {r r' : R} (h : Bnd i d r) (hL : Like d r) {name : ByteArray} {code : Int} (hS : Synced r name code r') : Bnd (i + 1) (d.sync name).2 r' := by
  unfold D.sync
  rw [hL.left, hL.now name]
  rcases hS with ⟨h1, rfl, rfl⟩ | ⟨h1, h2, rfl, rfl⟩ | ⟨h1, f, hf, rfl, rfl⟩
  · rw [if_pos h1]; exact h.mono
  · rw [if_neg h1, h2, if_neg (by simp)]; exact h.mono
  · rw [if_neg h1, hf, if_pos (by simp)]
    obtain ⟨a, b, c, e, f', g, s0, s1, l0, l1, r0, r1, kn, nn⟩ := h
    have hk1 : (keep name r.p).length ≤ r.p.length := List.length_filter_le _ _
    have hk2 : (keep name d.pend).length ≤ d.pend.length := List.length_filter_le _ _
    have hk3 := sumB_keep name r.p
    obtain ⟨t0, t1⟩ := step_left (r := { r with l := updF name ksync r.l, p := keep name r.p }) l0 l1
    refine ⟨?_, ?_, ?_, fun x hx => ?_, fun x hx => ?_, fun o ho => g o (List.mem_filter.1 ho).1, ?_, ?_, t0, t1, r0, r1, ?_, ?_⟩
    · show (updF name ksync r.l).length ≤ _; rw [updF_len]; omega
    · show (keep name r.p).length ≤ _; omega
    · show sumB (keep name r.p) ≤ _; omega
    · rcases updF_mem hx with h2 | ⟨y, hy, rfl⟩
      · have := e x h2; omega
      · have := e y hy; show y.has.size ≤ _; omega
    · rcases updF_mem hx with h2 | ⟨y, hy, rfl⟩
      · have := f' x h2; omega
      · have := e y hy; show y.has.size ≤ _; omega
    · show 0 ≤ r.steps + 1; omega
    · show r.steps + 1 ≤ _; omega
    · show d.kn + 1 + (keep name d.pend).length ≤ _; omega
    · show d.nn ≤ _; omega
theorem Bnd.lay {i : Nat} {d : D} {r r' : R} (h : Bnd i d r) (hL : Like d r) {name b : ByteArray} {put : Bool} {code : Int} (hS : Laid r name b put code r') {nw : ByteArray} (hnw : nw = now_ r name b put) (hn : name.size ≤ 20) (hb : b.size ≤ 200) :
    Bnd (i + 1) (d.lay name nw ⟨name, b, put⟩).2 r' := by
  have ho := hL.old name
  unfold D.lay
  rw [hL.left, ho, hL.nowt, hL.room, hnw]
  rcases hS with ⟨h1, rfl, rfl⟩ | ⟨h1, h2, rfl, rfl⟩ | ⟨h1, h2, rfl, k, l', hk, hM, rfl⟩
  · rw [if_pos h1]; exact h.mono
  · rw [if_neg h1, if_pos (by omega)]; exact h.mono
  · rw [if_neg h1, if_neg (by omega)]
    obtain ⟨a, b', c, e, f', g, s0, s1, l0, l1, r0, r1, kn, nn⟩ := h
    have hold : (old r name).size ≤ Dk.used r.l := by
      unfold old
      have e : fnd name r.l = r.l.find? (fun o => decide (o.name = name)) := rfl
      rw [← e]
      cases hf : fnd name r.l with
      | none => exact Nat.zero_le _
      | some f => rw [← S_used]; exact S_mem (s := fun f => f.has.size) (fnd_mem hf)
    have hnow : (now_ r name b put).size ≤ 1000000 := by omega
    generalize now_ r name b put = nw at hnow
    obtain ⟨t0, t1⟩ := step_left (r := { r with l := l'.set k { l'[k] with has := nw }, p := r.p ++ [⟨name, b, put⟩] }) l0 l1
    have hmem : (l'.set k { l'[k] with has := nw }).length ≤ i + 1 ∧ ∀ x ∈ l'.set k { l'[k] with has := nw }, x.has.size ≤ 1000000 + 20000 * (i + 1) ∧ x.kept.size ≤ 1000000 + 20000 * (i + 1) := by
      rcases laid_l hk hM nw with ⟨f, hf, e2⟩ | ⟨hn2, e2⟩
      · rw [e2]
        refine ⟨by rw [updF_len]; omega, fun x hx => ?_⟩
        rcases updF_mem hx with h2 | ⟨y, hy, rfl⟩
        · have := e x h2; have := f' x h2; omega
        · have := f' y hy
          refine ⟨?_, ?_⟩
          · exact Nat.le_trans hnow (Nat.le_add_right _ _)
          · show y.kept.size ≤ _; omega
      · rw [e2]
        refine ⟨by rw [List.length_append, List.length_cons, List.length_take, List.length_drop]; omega, fun x hx => ?_⟩
        have hx2 : x = ⟨name, nw, ByteArray.empty, false⟩ ∨ x ∈ r.l := by
          rcases List.mem_append.1 hx with h2 | h2
          · exact .inr (List.mem_of_mem_take h2)
          · rcases List.mem_cons.1 h2 with h2 | h2
            · exact .inl h2
            · exact .inr (List.mem_of_mem_drop h2)
        rcases hx2 with rfl | h2
        · refine ⟨?_, ?_⟩
          · exact Nat.le_trans hnow (Nat.le_add_right _ _)
          · exact Nat.zero_le _
        · have := e x h2; have := f' x h2; omega
    obtain ⟨m1, m2⟩ := hmem
    refine ⟨m1, ?_, ?_, fun x hx => (m2 x hx).1, fun x hx => (m2 x hx).2, fun o ho => ?_, ?_, ?_, t0, t1, r0, r1, ?_, ?_⟩
    · show (r.p ++ [_]).length ≤ _; rw [List.length_append]; simp; omega
    · show sumB (r.p ++ [_]) ≤ _; rw [sumB_append]; show sumB r.p + (b.size + 0) ≤ _; omega
    · rcases List.mem_append.1 ho with h2 | h2
      · exact g o h2
      · rw [List.mem_singleton.1 h2]; exact hn
    · show 0 ≤ r.steps + 1; omega
    · show r.steps + 1 ≤ _; omega
    · show d.kn + (d.pend ++ [_]).length ≤ _; rw [List.length_append]; simp; omega
    · show d.nn + 1 ≤ _; omega
theorem rcGo_kept (keep : Int) : ∀ (ops : List Op) (i : Nat) (l : List Fl) (lost : List ByteArray) (Z : Nat), (∀ f ∈ l, f.kept.size ≤ Z) → (∀ f ∈ rcGo keep i l lost ops, f.kept.size ≤ Z + sumB ops) ∧ (rcGo keep i l lost ops).length = l.length
  | [], i, l, lost, Z, h => ⟨fun f hf => by have := h f hf; show f.kept.size ≤ Z + 0; omega, rfl⟩
  | o :: r, i, l, lost, Z, h => by
    unfold rcGo
    split
    · obtain ⟨h1, h2⟩ := rcGo_kept keep r (i + 1) l lost Z h
      exact ⟨fun f hf => by have := h1 f hf; show _ ≤ Z + (o.b.size + sumB r); omega, h2⟩
    · obtain ⟨h1, h2⟩ := rcGo_kept keep r (i + 1) (rcF keep i o l) (rcL keep i o lost) (Z + o.b.size) (rcF_kept h)
      exact ⟨fun f hf => by have := h1 f hf; show _ ≤ Z + (o.b.size + sumB r); omega, by rw [h2, rcF_len]⟩
theorem Bnd.crash {i : Nat} {d : D} {r : R} (h : Bnd i d r) (hi : i ≤ 61) (keep : Int) : Bnd (i + 1) (d.crash keep) (r.crashed keep) := by
  obtain ⟨a, b, c, e, f, g, s0, s1, l0, l1, r0, r1, kn, nn⟩ := h
  obtain ⟨h1, h2⟩ := rcGo_kept keep r.p 0 r.l [] _ f
  have hm : ∀ x ∈ lc (rcGo keep 0 r.l [] r.p), x.has.size ≤ 1000000 + 20000 * (i + 1) ∧ x.kept.size ≤ 1000000 + 20000 * (i + 1) := by
    intro x hx
    rw [lc_eq] at hx
    obtain ⟨y, hy, rfl⟩ := List.mem_map.1 hx
    have := h1 y (List.mem_filter.1 hy).1
    refine ⟨?_, ?_⟩
    · show y.kept.size ≤ _; omega
    · show y.kept.size ≤ _; omega
  refine ⟨?_, Nat.zero_le _, Nat.zero_le _, fun x hx => (hm x hx).1, fun x hx => (hm x hx).2, fun o ho => (by cases ho), s0, ?_, by show (-1 : Int) ≤ -1; omega, by show (-1 : Int) ≤ _; omega, r0, r1, ?_, ?_⟩
  · show (lc (rcGo keep 0 r.l [] r.p)).length ≤ _
    have := List.length_filterMap_le (fun f : Fl => if f.is then some (fhas f) else none) (rcGo keep 0 r.l [] r.p)
    rw [h2] at this
    exact Nat.le_trans this (by omega)
  · show r.steps ≤ _; omega
  · show d.kn + d.pend.length + 0 ≤ _; omega
  · show d.kn + d.pend.length ≤ _; omega
theorem Like.at_le {d : D} {r : R} (h : Like d r) (name : ByteArray) : (d.now.at name).size ≤ d.now.tot := by
  rw [h.old name, h.nowt]
  unfold Dk.old
  have e : fnd name r.l = r.l.find? (fun o => decide (o.name = name)) := rfl
  rw [← e]
  cases hf : fnd name r.l with
  | none => exact Nat.zero_le _
  | some f => rw [← S_used]; exact S_mem (s := fun f => f.has.size) (fnd_mem hf)
/-- The copy's own steps: an append, a loss of power. -/
theorem copy_fit {d : D} (hf : d.Fit) (hs : d.steps ≤ 1000) (hk : d.kn ≤ 1000) (hn : d.nn ≤ 1000) (hp : d.pend.length ≤ 1000) (ht : d.now.tot ≤ 1000000000) (hc : d.kept.tot + sumB d.pend ≤ 1000000000) (hnm : ∀ o ∈ d.pend, o.name.size ≤ 1152921504606846976) {name nw b : ByteArray} (hname : name.size ≤ 20) (hb : b.size ≤ 200) (ha : (d.now.at name).size ≤ d.now.tot) :
    (d.lay name nw ⟨name, b, false⟩).2.Fit ∧ (d.lay name nw ⟨name, b, false⟩).2.kept.tot + sumB (d.lay name nw ⟨name, b, false⟩).2.pend ≤ 1152921504606846976 ∧ ∀ o ∈ (d.lay name nw ⟨name, b, false⟩).2.pend, o.name.size ≤ 1152921504606846976 := by
  unfold D.lay
  split
  · exact ⟨hf, by show d.kept.tot + sumB d.pend ≤ _; omega, hnm⟩
  · split
    · exact ⟨hf, by show d.kept.tot + sumB d.pend ≤ _; omega, hnm⟩
    · rename_i h1 h2
      obtain ⟨a1, a2, a3, a4, a5, a6, a7, a8, a9, a10⟩ := hf
      have ht2 : ((d.now.put name nw).tot : Int) ≤ 1000000 := by
        simp only [M.put]
        omega
      refine ⟨⟨?_, ?_, ?_, ?_, a5, a6, ?_, ?_, ?_, ?_⟩, ?_, fun o ho => ?_⟩
      · show 0 ≤ d.steps + 1; omega
      · show d.steps + 1 ≤ _; omega
      · show -1 ≤ (if d.left > 0 then d.left - 1 else d.left); split <;> omega
      · show (if d.left > 0 then d.left - 1 else d.left) ≤ _; split <;> omega
      · show d.nn + 1 ≤ _; omega
      · show d.kn ≤ _; omega
      · show (d.pend ++ [_]).length ≤ _; rw [List.length_append]; simp; omega
      · show (d.now.put name nw).tot ≤ _; omega
      · show d.kept.tot + sumB (d.pend ++ [_]) ≤ _
        rw [sumB_append]
        show d.kept.tot + (sumB d.pend + (b.size + 0)) ≤ _
        omega
      · rcases List.mem_append.1 ho with h3 | h3
        · exact hnm o h3
        · rw [List.mem_singleton.1 h3]
          show name.size ≤ _
          omega

end Go.Proofs.Ytocaihmadififaa.Dk
