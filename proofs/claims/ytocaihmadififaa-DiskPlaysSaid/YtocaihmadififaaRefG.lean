/- The document's disk and the disk: what they have alike, and that every operation keeps it. -/
import Derived.Test.YtocaihmadififaaRefF
namespace Go.Proofs.Ytocaihmadififaa.Dk
open Go.RowKit Go.Maps
set_option linter.unusedVariables false
set_option linter.unusedSimpArgs false

/-! ### Lists of files -/
def fnd (name : ByteArray) (l : List Fl) : Option Fl := l.find? (fun o => decide (o.name = name))
def S (s : Fl → Nat) : List Fl → Nat
  | [] => 0
  | f :: r => s f + S s r
theorem S_used (l : List Fl) : S (fun f => f.has.size) l = used l := by
  induction l with
  | nil => rfl
  | cons a r ih => simp only [S, used, ih]
theorem fnd_cons (name : ByteArray) (x : Fl) (r : List Fl) : fnd name (x :: r) = if x.name = name then some x else fnd name r := by
  unfold fnd
  rw [List.find?_cons]
  by_cases h : x.name = name <;> simp [h]
theorem fnd_name {name : ByteArray} {l : List Fl} {f : Fl} (h : fnd name l = some f) : f.name = name := by
  have := List.find?_some h
  exact of_decide_eq_true this
theorem fnd_mem {name : ByteArray} {l : List Fl} {f : Fl} (h : fnd name l = some f) : f ∈ l := List.mem_of_find?_eq_some h
theorem fnd_none {name : ByteArray} {l : List Fl} (h : ∀ f ∈ l, f.name ≠ name) : fnd name l = none := List.find?_eq_none.2 (fun x hx => by simpa using h x hx)
theorem fnd_of_mem {name : ByteArray} {l : List Fl} (h : name ∈ l.map Fl.name) : ∃ f, fnd name l = some f := by
  cases e : fnd name l with
  | some f => exact ⟨f, rfl⟩
  | none =>
    obtain ⟨f, hf, rfl⟩ := List.mem_map.1 h
    have := List.find?_eq_none.1 e f hf
    simp at this
theorem S_le_of {s : Fl → Nat} {A : Nat} : ∀ {l : List Fl}, (∀ f ∈ l, s f ≤ A) → S s l ≤ l.length * A
  | [], _ => by simp [S]
  | x :: r, h => by
    have h1 := S_le_of (l := r) (fun f hf => h f (by simp [hf]))
    have h2 := h x (by simp)
    simp only [S, List.length_cons, Nat.add_mul]
    omega
theorem S_mem {s : Fl → Nat} {f : Fl} : ∀ {l : List Fl}, f ∈ l → s f ≤ S s l
  | x :: r, h => by
    simp only [S]
    rcases List.mem_cons.1 h with rfl | h
    · omega
    · have := S_mem (s := s) h; omega
theorem fnd_updF {name : ByteArray} {g : Fl → Fl} (hg : ∀ f, (g f).name = f.name) (x : ByteArray) : ∀ l : List Fl, fnd x (updF name g l) = if x = name then (fnd name l).map g else fnd x l
  | [] => by simp [updF, fnd]
  | a :: r => by
    have ih := fnd_updF (name := name) hg x r
    unfold updF
    by_cases h : a.name = name
    · rw [if_pos h, fnd_cons, fnd_cons, fnd_cons, hg, h]
      by_cases hx : x = name
      · subst hx; simp
      · have : ¬ name = x := fun e => hx e.symm
        simp [hx, this]
    · rw [if_neg h, fnd_cons, fnd_cons, fnd_cons, ih, if_neg h]
      by_cases hx : x = name
      · subst hx; simp [h]
      · simp [hx]
theorem S_updF {s : Fl → Nat} {name : ByteArray} {g : Fl → Fl} {f : Fl} : ∀ {l : List Fl}, fnd name l = some f → S s (updF name g l) + s f = S s l + s (g f)
  | [], h => by simp [fnd] at h
  | a :: r, h => by
    rw [fnd_cons] at h
    unfold updF
    by_cases h1 : a.name = name
    · rw [if_pos h1] at h
      rw [if_pos h1]
      cases h
      simp only [S]
      omega
    · rw [if_neg h1] at h
      rw [if_neg h1]
      have := S_updF (s := s) (g := g) h
      simp only [S]
      omega
theorem set_updF {name : ByteArray} {g : Fl → Fl} {l : List Fl} {k : Nat} (hk : k < l.length) (h : l[k].name = name) (hn : ∀ j (hj : j < k), (l[j]'(by omega)).name ≠ name) : l.set k (g l[k]) = updF name g l := (updF_set name g l k hk h hn).symm
theorem fnd_at {name : ByteArray} {l : List Fl} {k : Nat} (hk : k < l.length) (h : l[k].name = name) (hn : ∀ j (hj : j < k), (l[j]'(by omega)).name ≠ name) : fnd name l = some l[k] := by
  unfold fnd
  rw [List.find?_eq_some_iff_getElem]
  exact ⟨by simpa using h, k, hk, rfl, fun j hj => by simpa using hn j hj⟩
theorem fnd_append (x : ByteArray) : ∀ (a b : List Fl), fnd x (a ++ b) = (fnd x a).or (fnd x b) := by
  intro a b
  unfold fnd
  rw [List.find?_append]
theorem fnd_ins {l : List Fl} {k : Nat} {n : Fl} (hn : ∀ f ∈ l, f.name ≠ n.name) (x : ByteArray) : fnd x (l.take k ++ n :: l.drop k) = if x = n.name then some n else fnd x l := by
  rw [fnd_append, fnd_cons]
  by_cases h : x = n.name
  · subst h
    rw [fnd_none (fun f hf => hn f (List.mem_of_mem_take hf))]
    simp
  · have h2 : ¬ n.name = x := fun e => h e.symm
    rw [if_neg h2, if_neg h, ← fnd_append, List.take_append_drop]
theorem S_append (s : Fl → Nat) : ∀ a b : List Fl, S s (a ++ b) = S s a + S s b
  | [], b => by simp [S]
  | x :: a, b => by simp only [List.cons_append, S, S_append s a b]; omega
theorem S_ins (s : Fl → Nat) (l : List Fl) (k : Nat) (n : Fl) : S s (l.take k ++ n :: l.drop k) = S s l + s n := by
  have h : S s (l.take k ++ l.drop k) = S s l := by rw [List.take_append_drop]
  rw [S_append] at h
  rw [S_append]
  simp only [S]
  omega
theorem lc_eq (l : List Fl) : lc l = (l.filter Fl.is).map fhas := by
  unfold lc
  induction l with
  | nil => rfl
  | cons a r ih => cases h : a.is <;> simp [h, ih]
theorem lc_names (l : List Fl) : (lc l).map Fl.name = (l.filter Fl.is).map Fl.name := by
  rw [lc_eq, List.map_map]
  rfl
theorem lc_cons (a : Fl) (r : List Fl) : lc (a :: r) = if a.is then fhas a :: lc r else lc r := by
  unfold lc
  cases h : a.is <;> simp [h]
theorem fnd_lc (x : ByteArray) : ∀ (l : List Fl), (l.map Fl.name).Nodup → fnd x (lc l) = (fnd x l).bind (fun f => if f.is then some (fhas f) else none)
  | [], _ => rfl
  | a :: r, h => by
    rw [List.map_cons, List.nodup_cons] at h
    have ih := fnd_lc x r h.2
    rw [lc_cons, fnd_cons]
    cases ha : a.is with
    | true =>
      rw [if_pos rfl, fnd_cons, ih]
      have : (fhas a).name = a.name := rfl
      rw [this]
      by_cases hx : a.name = x
      · simp [hx, ha]
      · simp [hx]
    | false =>
      rw [if_neg (by simp), ih]
      by_cases hx : a.name = x
      · subst hx
        rw [fnd_none (l := r) (fun f hf e => h.1 (by rw [← e]; exact List.mem_map_of_mem hf))]
        simp [ha]
      · simp [hx]
theorem S_lc (s : Fl → Nat) : ∀ l : List Fl, S s (lc l) = S (fun f => if f.is then s (fhas f) else 0) l
  | [] => rfl
  | a :: r => by
    rw [lc_cons]
    cases ha : a.is <;> simp [S, ha, S_lc s r]
theorem S_congr {s t : Fl → Nat} : ∀ {l : List Fl}, (∀ f ∈ l, s f = t f) → S s l = S t l
  | [], _ => rfl
  | a :: r, h => by simp only [S]; rw [h a (by simp), S_congr (fun f hf => h f (by simp [hf]))]

/-! ### What the two disks have alike -/
def ks (f : Fl) : Nat := if f.is then f.kept.size else 0
structure LikeK (m : M) (l : List Fl) : Prop where
  get : ∀ x, m.get x = (fnd x l).bind (fun f => if f.is then some f.kept else none)
  tot : m.tot = S ks l
structure Good (l : List Fl) : Prop where
  once : (l.map Fl.name).Nodup
  off : ∀ f ∈ l, f.is = false → f.kept = ByteArray.empty
structure Like (d : D) (r : R) : Prop where
  room : d.room = r.room
  steps : d.steps = r.steps
  left : d.left = r.left
  pend : d.pend = r.p
  now : ∀ x, d.now.get x = (fnd x r.l).map Fl.has
  nowt : d.now.tot = used r.l
  kept : LikeK d.kept r.l
  good : Good r.l
  known : ∀ o ∈ r.p, o.name ∈ r.l.map Fl.name
theorem Like.read {d : D} {r : R} (h : Like d r) (name : ByteArray) : d.read name = r.read name := by
  have hn := h.now name
  unfold D.read R.read
  rw [h.left]
  by_cases hl : r.left = 0
  · rw [if_pos hl, if_pos hl]
  · rw [if_neg hl, if_neg hl]
    unfold M.at
    rw [hn]
    have e : fnd name r.l = r.l.find? (fun o => decide (o.name = name)) := rfl
    rw [e]
    cases r.l.find? (fun o => decide (o.name = name)) <;> simp
theorem Like.old {d : D} {r : R} (h : Like d r) (name : ByteArray) : d.now.at name = old r name := by
  unfold M.at Dk.old
  rw [h.now name]
  have e : fnd name r.l = r.l.find? (fun o => decide (o.name = name)) := rfl
  rw [e]
  cases r.l.find? (fun o => decide (o.name = name)) <;> rfl
theorem Like.new (room : Int) : Like (D.new room) (R.new room) :=
  ⟨by simp only [D.new, R.new]; omega, rfl, rfl, rfl, fun _ => rfl, rfl, ⟨fun _ => rfl, rfl⟩, ⟨List.nodup_nil, fun _ h => by cases h⟩, fun _ h => by cases h⟩
theorem Like.limit {d : D} {r : R} (h : Like d r) (k : Int) : Like (d.limit k) (r.limit k) := by
  obtain ⟨h1, h2, h3, h4, h5, h6, h7, h8, h9⟩ := h
  exact ⟨h1, h2, rfl, h4, h5, h6, h7, h8, h9⟩
theorem Like.step {d : D} {r : R} (h : Like d r) : Like d.step r.step := by
  obtain ⟨h1, h2, h3, h4, h5, h6, h7, h8, h9⟩ := h
  exact ⟨h1, by show d.steps + 1 = r.steps + 1; rw [h2], by show (if d.left > 0 then d.left - 1 else d.left) = _; rw [h3]; rfl, h4, h5, h6, h7, h8, h9⟩

/-! ### Lay -/
def fnow (b : ByteArray) (f : Fl) : Fl := { f with has := b }
theorem laid_l {name : ByteArray} {l l' : List Fl} {k : Nat} (hk : k < l'.length) (h : Made name l k l') (nw : ByteArray) :
    (∃ f, fnd name l = some f ∧ l'.set k { l'[k] with has := nw } = updF name (fnow nw) l) ∨ ((∀ f ∈ l, f.name ≠ name) ∧ l'.set k { l'[k] with has := nw } = l.take k ++ (⟨name, nw, ByteArray.empty, false⟩ : Fl) :: l.drop k) := by
  rcases h with ⟨hk2, hn, hb, rfl⟩ | ⟨hn, hk2, rfl⟩
  · exact .inl ⟨_, fnd_at hk hn hb, set_updF (g := fnow nw) hk hn hb⟩
  · refine .inr ⟨hn, ?_⟩
    have hlen : (l.take k).length = k := by rw [List.length_take]; omega
    have hget : (l.take k ++ newFl name :: l.drop k)[k]'hk = newFl name := by
      rw [List.getElem_append_right (by omega)]
      simp [hlen]
    rw [hget, List.set_append_right _ _ (by omega), hlen, Nat.sub_self]
    rfl
theorem Like.lay {d : D} {r r' : R} (h : Like d r) {name b : ByteArray} {put : Bool} {code : Int} (hL : Laid r name b put code r') {nw : ByteArray} (hnw : nw = now_ r name b put) :
    (d.lay name nw ⟨name, b, put⟩).1 = code ∧ Like (d.lay name nw ⟨name, b, put⟩).2 r' := by
  have ho := h.old name
  unfold D.lay
  rw [h.left, ho, h.nowt, h.room, hnw]
  rcases hL with ⟨h1, rfl, rfl⟩ | ⟨h1, h2, rfl, rfl⟩ | ⟨h1, h2, rfl, k, l', hk, hM, rfl⟩
  · rw [if_pos h1]; exact ⟨rfl, h⟩
  · rw [if_neg h1, if_pos (by omega)]; exact ⟨rfl, h⟩
  · rw [if_neg h1, if_neg (by omega)]
    refine ⟨rfl, Like.step ?_⟩
    obtain ⟨q1, q2, q3, q4, q5, q6, q7, q8, q9⟩ := h
    generalize now_ r name b put = nw
    rcases laid_l hk hM nw with ⟨f, hf, e⟩ | ⟨hn, e⟩
    · rw [e]
      have hfn := fnd_name hf
      have hU := fun x => fnd_updF (name := name) (g := fnow nw) (fun _ => rfl) x r.l
      refine ⟨rfl, q2, rfl, by show _ ++ _ = _ ++ _; rw [q4], fun x => ?_, ?_, ⟨fun x => ?_, ?_⟩, ⟨?_, ?_⟩, ?_⟩
      · show (if x = name then some nw else d.now.get x) = (fnd x (updF name (fnow nw) r.l)).map Fl.has
        rw [hU, q5 x]
        by_cases hx : x = name
        · rw [if_pos hx, if_pos hx, hf]; rfl
        · rw [if_neg hx, if_neg hx]
      · show d.now.tot - (d.now.at name).size + nw.size = used (updF name (fnow nw) r.l)
        have h1 := S_updF (s := fun f => f.has.size) (g := fnow nw) hf
        rw [S_used, S_used] at h1
        have h2 : d.now.at name = f.has := by rw [M.at, q5 name, hf]; rfl
        have h3 : (fnow nw f).has.size = nw.size := rfl
        have h4 : f.has.size ≤ used r.l := by rw [← S_used]; exact S_mem (s := fun f => f.has.size) (fnd_mem hf)
        simp only [h3] at h1
        rw [q6, h2]
        omega
      · show d.kept.get x = (fnd x (updF name (fnow nw) r.l)).bind _
        rw [hU, q7.get x]
        by_cases hx : x = name
        · subst hx; rw [if_pos rfl, hf]; rfl
        · rw [if_neg hx]
      · show d.kept.tot = S ks (updF name (fnow nw) r.l)
        have h1 := S_updF (s := ks) (g := fnow nw) hf
        have h3 : ks (fnow nw f) = ks f := rfl
        rw [q7.tot]; omega
      · show ((updF name (fnow nw) r.l).map Fl.name).Nodup
        rw [updF_names (g := fnow nw) (fun _ => rfl)]; exact q8.once
      · intro g hg hi
        rcases updF_mem hg with h1 | ⟨y, hy, rfl⟩
        · exact q8.off g h1 hi
        · exact q8.off y hy hi
      · intro o ho
        show o.name ∈ (updF name (fnow nw) r.l).map Fl.name
        rw [updF_names (g := fnow nw) (fun _ => rfl)]
        rcases List.mem_append.1 ho with h1 | h1
        · exact q9 o h1
        · rw [List.mem_singleton.1 h1]; exact List.mem_map.2 ⟨f, fnd_mem hf, hfn⟩
    · rw [e]
      have hU := fun x => fnd_ins (k := k) (n := ⟨name, nw, ByteArray.empty, false⟩) hn x
      have hno := fnd_none hn
      have hmem : ∀ g, g ∈ r.l.take k ++ (⟨name, nw, ByteArray.empty, false⟩ : Fl) :: r.l.drop k ↔ g = ⟨name, nw, ByteArray.empty, false⟩ ∨ g ∈ r.l := by
        intro g
        have : g ∈ r.l ↔ g ∈ r.l.take k ∨ g ∈ r.l.drop k := by rw [← List.mem_append, List.take_append_drop]
        rw [List.mem_append, List.mem_cons, this]
        exact ⟨fun h => by rcases h with h | h | h; exact .inr (.inl h); exact .inl h; exact .inr (.inr h), fun h => by rcases h with h | h | h; exact .inr (.inl h); exact .inl h; exact .inr (.inr h)⟩
      refine ⟨rfl, q2, rfl, by show _ ++ _ = _ ++ _; rw [q4], fun x => ?_, ?_, ⟨fun x => ?_, ?_⟩, ⟨?_, ?_⟩, ?_⟩
      · show (if x = name then some nw else d.now.get x) = (fnd x _).map Fl.has
        rw [hU, q5 x]
        by_cases hx : x = name
        · rw [if_pos hx, if_pos hx]; rfl
        · rw [if_neg hx, if_neg hx]
      · show d.now.tot - (d.now.at name).size + nw.size = used _
        have h1 : used (r.l.take k ++ (⟨name, nw, ByteArray.empty, false⟩ : Fl) :: r.l.drop k) = used r.l + nw.size := by
          have h1 := S_ins (fun f => f.has.size) r.l k ⟨name, nw, ByteArray.empty, false⟩
          rw [S_used, S_used] at h1
          exact h1
        have h2 : d.now.at name = ByteArray.empty := by rw [M.at, q5 name, hno]; rfl
        have h3 : ByteArray.empty.size = 0 := rfl
        rw [h1, q6, h2]
        omega
      · show d.kept.get x = (fnd x _).bind _
        rw [hU, q7.get x]
        by_cases hx : x = name
        · subst hx; rw [if_pos rfl, hno]; rfl
        · rw [if_neg hx]
      · show d.kept.tot = S ks _
        have h1 := S_ins ks r.l k ⟨name, nw, ByteArray.empty, false⟩
        have h3 : ks ⟨name, nw, ByteArray.empty, false⟩ = 0 := rfl
        rw [h1, q7.tot]; omega
      · show ((r.l.take k ++ (⟨name, nw, ByteArray.empty, false⟩ : Fl) :: r.l.drop k).map Fl.name).Nodup
        rw [List.map_append, List.map_cons]
        rw [(List.perm_middle).nodup_iff, List.nodup_cons, ← List.map_append, List.take_append_drop]
        exact ⟨fun hx => by obtain ⟨y, hy, e2⟩ := List.mem_map.1 hx; exact hn y hy e2, q8.once⟩
      · intro g hg hi
        rcases (hmem g).1 hg with rfl | h1
        · rfl
        · exact q8.off g h1 hi
      · intro o ho
        show o.name ∈ (_ : List Fl).map Fl.name
        rcases List.mem_append.1 ho with h1 | h1
        · obtain ⟨y, hy, e2⟩ := List.mem_map.1 (q9 o h1)
          exact List.mem_map.2 ⟨y, (hmem y).2 (.inr hy), e2⟩
        · rw [List.mem_singleton.1 h1]; exact List.mem_map.2 ⟨_, (hmem _).2 (.inl rfl), rfl⟩

end Go.Proofs.Ytocaihmadififaa.Dk
