/- The document's disk and the disk: Sync, Crash keep what they have alike; bounds. -/
import Derived.Test.YtocaihmadififaaRefG
namespace Go.Proofs.Ytocaihmadififaa.Dk
open Go.RowKit Go.Maps
set_option linter.unusedVariables false
set_option linter.unusedSimpArgs false

/-! ### Sync -/
def ksync (f : Fl) : Fl := { f with kept := f.has, is := true }
def Synced (r : R) (name : ByteArray) (code : Int) (r' : R) : Prop :=
  (r.left = 0 ∧ code = 22 ∧ r' = r) ∨ (r.left ≠ 0 ∧ fnd name r.l = none ∧ code = 23 ∧ r' = r) ∨
  (r.left ≠ 0 ∧ ∃ f, fnd name r.l = some f ∧ code = 0 ∧ r' = ({ r with l := updF name ksync r.l, p := keep name r.p } : R).step)
theorem rsync {w : World} {F : RF} {r : R} (h : IsR w F r) (hf : r.Fit) (name : ByteArray) :
    Calls Try.prog 20 #[.pointer (some ⟨F.g, 0, none⟩), .string name] w fun e w' => ∃ code r' F', e = .returned (.int .i64 code) ∧ Synced r name code r' ∧ IsR w' F' r' ∧ RTurn w w' F F' := by
  by_cases hl : r.left = 0
  · exact (rsync_off h name hl).mono fun e w' ⟨he, hw⟩ => ⟨22, r, F, he, .inl ⟨hl, rfl, rfl⟩, by rw [hw]; exact h, by rw [hw]; exact RTurn.refl _ _⟩
  · rcases fat_cases name r.l with ⟨k, hk, hfk, hn, hfi, hb⟩ | ⟨hfk, hfi, _⟩
    · refine (rsync_calls h hf name hl hk hfk).mono fun e w' ⟨F', he, hI, hT⟩ => ⟨0, _, F', he, .inr (.inr ⟨hl, r.l[k], hfi, rfl, ?_⟩), hI, hT⟩
      unfold R.synced
      rw [← set_updF (g := ksync) hk hn hb]
      rfl
    · exact (rsync_none h hf name hl hfk).mono fun e w' ⟨he, hw⟩ => ⟨23, r, F, he, .inr (.inl ⟨hl, hfi, rfl, rfl⟩), by rw [hw]; exact h, by rw [hw]; exact RTurn.refl _ _⟩
theorem LikeK.put {m : M} {l : List Fl} (h : LikeK m l) {name v : ByteArray} {g : Fl → Fl} (hg : ∀ f, (g f).name = f.name) {f : Fl} (hf : fnd name l = some f) (h1 : (g f).is = true) (h2 : (g f).kept = v) : LikeK (m.put name v) (updF name g l) := by
  refine ⟨fun x => ?_, ?_⟩
  · rw [fnd_updF hg]
    show (if x = name then some v else m.get x) = _
    by_cases hx : x = name
    · rw [if_pos hx, if_pos hx, hf]
      simp [h1, h2]
    · rw [if_neg hx, if_neg hx]; exact h.get x
  · have e1 := S_updF (s := ks) (g := g) hf
    have e2 : ks (g f) = v.size := by unfold ks; rw [h1, h2]; rfl
    have e3 : (m.at name).size = ks f := by
      rw [M.at, h.get name, hf]
      unfold ks
      cases hi : f.is <;> simp [hi]
    have e4 : ks f ≤ S ks l := S_mem (fnd_mem hf)
    show m.tot - (m.at name).size + v.size = _
    rw [e3, h.tot]
    omega
theorem Good.upd {l : List Fl} (h : Good l) {name : ByteArray} {g : Fl → Fl} (hg : ∀ f, (g f).name = f.name) (h1 : ∀ f, (g f).is = true) : Good (updF name g l) := by
  refine ⟨by rw [updF_names (g := g) hg]; exact h.once, fun f hf hi => ?_⟩
  rcases updF_mem hf with h2 | ⟨y, hy, rfl⟩
  · exact h.off f h2 hi
  · rw [h1] at hi; cases hi
theorem Like.sync {d : D} {r r' : R} (h : Like d r) {name : ByteArray} {code : Int} (hS : Synced r name code r') : (d.sync name).1 = code ∧ Like (d.sync name).2 r' := by
  unfold D.sync
  rw [h.left, h.now name]
  rcases hS with ⟨h1, rfl, rfl⟩ | ⟨h1, h2, rfl, rfl⟩ | ⟨h1, f, hf, rfl, rfl⟩
  · rw [if_pos h1]; exact ⟨rfl, h⟩
  · rw [if_neg h1, h2, if_neg (by simp)]; exact ⟨rfl, h⟩
  · rw [if_neg h1, hf, if_pos (by simp)]
    have ho : d.now.at name = f.has := by rw [M.at, h.now name, hf]; rfl
    rw [ho]
    refine ⟨rfl, Like.step ?_⟩
    obtain ⟨q1, q2, q3, q4, q5, q6, q7, q8, q9⟩ := h
    have hU := fun x => fnd_updF (name := name) (g := ksync) (fun _ => rfl) x r.l
    refine ⟨q1, q2, rfl, by show keep _ _ = keep _ _; rw [q4], fun x => ?_, ?_, q7.put (g := ksync) (fun _ => rfl) hf rfl rfl, q8.upd (g := ksync) (fun _ => rfl) (fun _ => rfl), fun o ho => ?_⟩
    · show d.now.get x = (fnd x (updF name ksync r.l)).map Fl.has
      rw [hU, q5 x]
      by_cases hx : x = name
      · subst hx; rw [if_pos rfl, hf]; rfl
      · rw [if_neg hx]
    · show d.now.tot = used (updF name ksync r.l)
      have h1 := S_updF (s := fun f => f.has.size) (g := ksync) hf
      rw [S_used, S_used] at h1
      have h3 : (ksync f).has.size = f.has.size := rfl
      simp only [h3] at h1
      rw [q6]; omega
    · show o.name ∈ (updF name ksync r.l).map Fl.name
      rw [updF_names (g := ksync) (fun _ => rfl)]
      exact q9 o (List.mem_filter.1 ho).1

/-! ### Crash -/
theorem lostAt_L (keep : Int) (i : Nat) (o : Op) (lost : List ByteArray) (k : ByteArray) : lostAt k (rcL keep i o lost) = if k = o.name then lostAt o.name lost || !bitOf keep i else lostAt k lost := by
  unfold rcL
  cases hb : bitOf keep i with
  | true => by_cases hk : k = o.name <;> simp [hk]
  | false =>
    rw [if_neg (by simp), lostAt_snoc]
    by_cases hk : k = o.name
    · subst hk; simp
    · have : ¬ o.name = k := fun e => hk e.symm
      simp [hk, this]
theorem half_empty (b : ByteArray) : (!(half b).toList.isEmpty) = decide (0 < (half b).size) := by
  generalize half b = x
  have h : x.toList.length = x.size := by rw [ByteArray.toList_eq, Array.length_toList]; rfl
  generalize x.toList = y at h
  cases y with
  | nil => rw [← h]; rfl
  | cons a t => rw [← h]; exact (decide_eq_true (Nat.succ_pos _)).symm
theorem crash_go (keep : Int) : ∀ (ops : List Op) (i : Nat) (m : M) (l : List Fl) (lost : List ByteArray) (st : ByteArray → Bool), LikeK m l → Good l → (∀ k, st k = lostAt k lost) → (∀ o ∈ ops, o.name ∈ l.map Fl.name) →
    LikeK (crashGo keep i m st ops) (rcGo keep i l lost ops) ∧ Good (rcGo keep i l lost ops)
  | [], i, m, l, lost, st, hm, hg, hs, hn => ⟨hm, hg⟩
  | o :: r, i, m, l, lost, st, hm, hg, hs, hn => by
    obtain ⟨f, hf⟩ := fnd_of_mem (hn o (by simp))
    unfold crashGo rcGo
    cases hl : lostAt o.name lost with
    | true =>
      rw [if_pos rfl]
      have h1 : crash1 keep i o m st = m := by unfold crash1; rw [hs, hl]; rfl
      rw [h1]
      refine crash_go keep r (i + 1) m l lost _ hm hg (fun k => ?_) (fun o' ho' => hn o' (by simp [ho']))
      unfold stuck1
      by_cases hk : k = o.name
      · rw [if_pos hk, hs, hl, hk, hl]; rfl
      · rw [if_neg hk, hs]
    | false =>
      rw [if_neg (by simp)]
      have hst : st o.name = false := by rw [hs, hl]
      have hat : m.at o.name ++ o.b = f.kept ++ o.b ∧ m.at o.name ++ half o.b = f.kept ++ half o.b := by
        have : m.at o.name = f.kept := by
          rw [M.at, hm.get o.name, hf]
          cases hi : f.is with
          | true => simp [hi]
          | false => simp [hi, hg.off f (fnd_mem hf) hi]
        rw [this]; exact ⟨rfl, rfl⟩
      have key : LikeK (crash1 keep i o m st) (rcF keep i o l) ∧ Good (rcF keep i o l) := by
        unfold crash1 rcF
        rw [if_neg (by simp [hst]), half_empty, hat.1, hat.2]
        split
        · exact ⟨hm.put (g := kset o.b) (fun _ => rfl) hf rfl rfl, hg.upd (g := kset o.b) (fun _ => rfl) (fun _ => rfl)⟩
        · split
          · exact ⟨hm.put (g := kadd o.b) (fun _ => rfl) hf rfl rfl, hg.upd (g := kadd o.b) (fun _ => rfl) (fun _ => rfl)⟩
          · split
            · exact ⟨hm.put (g := kadd (half o.b)) (fun _ => rfl) hf rfl rfl, hg.upd (g := kadd (half o.b)) (fun _ => rfl) (fun _ => rfl)⟩
            · exact ⟨hm, hg⟩
      refine crash_go keep r (i + 1) _ _ _ _ key.1 key.2 (fun k => ?_) (fun o' ho' => by rw [rcF_names]; exact hn o' (by simp [ho']))
      rw [lostAt_L]
      unfold stuck1
      by_cases hk : k = o.name
      · rw [if_pos hk, if_pos hk, hs]
      · rw [if_neg hk, if_neg hk, hs]
theorem Like.crash {d : D} {r : R} (h : Like d r) (keep : Int) : Like (d.crash keep) (r.crashed keep) := by
  obtain ⟨q1, q2, q3, q4, q5, q6, q7, q8, q9⟩ := h
  have hG := crash_go keep r.p 0 d.kept r.l [] (fun _ => false) q7 q8 (fun _ => rfl) q9
  unfold D.crash R.crashed
  rw [q4]
  generalize crashGo keep 0 d.kept (fun _ => false) r.p = m at hG
  generalize rcGo keep 0 r.l [] r.p = l at hG
  obtain ⟨hk, hg⟩ := hG
  have hF := fun x => fnd_lc x l hg.once
  have hks : ∀ l : List Fl, S ks (lc l) = S ks l := fun l => by
    rw [S_lc]
    refine S_congr (fun f _ => ?_)
    unfold ks
    cases h : f.is <;> simp [fhas, h]
  have hkh : S (fun f => f.has.size) (lc l) = S ks l := by
    rw [S_lc]
    refine S_congr (fun f _ => ?_)
    unfold ks
    cases h : f.is <;> simp [fhas]
  refine ⟨q1, q2, rfl, rfl, fun x => ?_, ?_, ⟨fun x => ?_, ?_⟩, ⟨?_, ?_⟩, fun o ho => by cases ho⟩
  · show m.get x = (fnd x (lc l)).map Fl.has
    rw [hF, hk.get x]
    cases fnd x l with
    | none => rfl
    | some f => cases h : f.is <;> simp [fhas, h]
  · show m.tot = used (lc l)
    rw [← S_used, hkh]; exact hk.tot
  · show m.get x = (fnd x (lc l)).bind _
    rw [hF, hk.get x]
    cases fnd x l with
    | none => rfl
    | some f => cases h : f.is <;> simp [fhas, h]
  · show m.tot = S ks (lc l)
    rw [hks]; exact hk.tot
  · show ((lc l).map Fl.name).Nodup
    rw [lc_names]
    exact hg.once.sublist (List.filter_sublist.map _)
  · intro f hf hi
    have hf2 : f ∈ lc l := hf
    rw [lc_eq] at hf2
    obtain ⟨y, hy, rfl⟩ := List.mem_map.1 hf2
    have := (List.mem_filter.1 hy).2
    rw [show (fhas y).is = y.is from rfl, this] at hi
    cases hi

end Go.Proofs.Ytocaihmadififaa.Dk
