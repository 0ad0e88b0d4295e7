/- A map from strings to strings, as a plain function and the sum of its elements' lengths. -/
import Derived.Maps.OwnSet
import Derived.Maps.RangeWalk
import Derived.Maps.Ext
import Derived.Maps.StringElems
namespace Go.Proofs.Ytocaihmadififaa.Dk
open Go.RowKit Go.Maps
set_option linter.unusedVariables false
set_option linter.unusedSimpArgs false

abbrev DU := DataW Unit

structure M where
  get : ByteArray → Option ByteArray
  tot : Nat

def M.empty : M := ⟨fun _ => none, 0⟩
def M.at (m : M) (k : ByteArray) : ByteArray := (m.get k).getD ByteArray.empty
def M.put (m : M) (k v : ByteArray) : M := ⟨fun x => if x = k then some v else m.get x, m.tot - (m.at k).size + v.size⟩

def kl (s : ByteArray) : Lit := .string s.data.toList
def dl (s : ByteArray) : DU := .lit (.string s.data.toList)

theorem kl_key (s : ByteArray) : WideAt.IsKeyLit (kl s) := trivial
theorem toList_inj {s t : ByteArray} (h : s.data.toList = t.data.toList) : s = t := by
  cases s; cases t; congr 1; exact Array.toList_inj.1 h
theorem kl_inj {s t : ByteArray} (h : kl s = kl t) : s = t := toList_inj (Lit.string.inj h)
theorem dl_inj {s t : ByteArray} (h : dl s = dl t) : s = t := toList_inj (Lit.string.inj (DataW.lit.inj h))

def found {H : Type} (es : List (Lit × DataW H)) (k : Lit) (z : DataW H) : DataW H := match es.find? (fun p => p.1.sameKey k) with | some p => p.2 | none => z
theorem atKey_map {H : Type} (es : List (Lit × DataW H)) (k : Lit) (z : DataW H) : (DataW.map es).atKey k z = found es k z := rfl

def len1 : DU → Nat
  | .lit (.string l) => l.length
  | _ => 0
theorem len1_dl (s : ByteArray) : len1 (dl s) = s.size := Array.length_toList

def sumOn (left : Lit → Bool) : List (Lit × DU) → Nat
  | [] => 0
  | p :: r => (if left p.1 then len1 p.2 else 0) + sumOn left r
def weigh (D : DU) (left : Lit → Bool) : Nat := match D with | .map es => sumOn left es | _ => 0

theorem sumOn_insert (left : Lit → Bool) (x : Lit × DU) : ∀ l, sumOn left (DataW.insert x l) = (if left x.1 then len1 x.2 else 0) + sumOn left l
  | [] => by simp [DataW.insert, sumOn]
  | y :: r => by
    unfold DataW.insert
    split
    · simp [sumOn]
    · simp only [sumOn, sumOn_insert left x r]; omega

theorem sumOn_congr {l1 l2 : Lit → Bool} : ∀ l : List (Lit × DU), (∀ p ∈ l, l1 p.1 = l2 p.1) → sumOn l1 l = sumOn l2 l
  | [], _ => rfl
  | y :: r, h => by simp only [sumOn, h y (by simp), sumOn_congr r (fun p hp => h p (by simp [hp]))]

theorem sumOn_none {left : Lit → Bool} (h : ∀ k, left k = false) : ∀ l : List (Lit × DU), sumOn left l = 0
  | [] => rfl
  | y :: r => by simp [sumOn, h, sumOn_none h r]

theorem sumOn_mono {l1 l2 : Lit → Bool} (h : ∀ k, l1 k = true → l2 k = true) : ∀ l : List (Lit × DU), sumOn l1 l ≤ sumOn l2 l
  | [] => Nat.le_refl _
  | y :: r => by
    have := sumOn_mono h r
    simp only [sumOn]
    cases e : l1 y.1 with
    | false => simp; omega
    | true => simp [h _ e]; omega

/-- The entry at one key is struck. -/
theorem sumOn_strike (left : Lit → Bool) (k : Lit) (hk : WideAt.IsKeyLit k) : ∀ l : List (Lit × DU), l.Pairwise (fun p q => p.1 ≠ q.1) →
    sumOn left l = (match l.find? (fun p => p.1.sameKey k) with | some p => if left k then len1 p.2 else 0 | none => 0) + sumOn left (l.filter fun p => !p.1.sameKey k)
  | [], _ => rfl
  | y :: r, h => by
    obtain ⟨h1, h2⟩ := List.pairwise_cons.1 h
    cases e : y.1.sameKey k with
    | true =>
      have ey := WideAt.sameKey_eq e
      have hr : r.filter (fun p => !p.1.sameKey k) = r := List.filter_eq_self.2 (fun p hp => by
        have := h1 p hp
        rw [sameKey_ne (fun e2 => this (by rw [e2, ey]))]; rfl)
      rw [List.filter_cons, e, hr, List.find?_cons, e]
      simp [sumOn, ey]
    | false =>
      simp only [List.find?_cons, e, List.filter_cons, Bool.not_false, if_true, sumOn]
      rw [sumOn_strike left k hk r h2]
      omega

theorem sumOn_less (left : Lit → Bool) (k : Lit) : ∀ l : List (Lit × DU), sumOn left (l.filter fun p => !p.1.sameKey k) = sumOn (fun z => left z && !z.sameKey k) l
  | [] => rfl
  | y :: r => by
    have := sumOn_less left k r
    cases e : y.1.sameKey k with
    | true => simp [List.filter_cons, e, sumOn, this]
    | false => simp [List.filter_cons, e, sumOn, this]

theorem weigh_step {D : DU} (hT : Tidy D) {left : Lit → Bool} {k v : ByteArray} (hl : left (kl k) = true) (hat : ∀ zd, D.atKey (kl k) zd = dl v) :
    weigh D left = v.size + weigh D (fun z => left z && !z.sameKey (kl k)) := by
  obtain ⟨es, rfl, hp⟩ := hT
  show sumOn left es = v.size + sumOn _ es
  rw [sumOn_strike left (kl k) (kl_key k) es hp, sumOn_less]
  have h0 := hat (.lit (.bool true))
  rw [atKey_map] at h0
  unfold found at h0
  cases e : es.find? (fun p => p.1.sameKey (kl k)) with
  | none => rw [e] at h0; simp [dl] at h0
  | some p =>
    rw [e] at h0
    simp only at h0
    simp [hl, h0, len1_dl]

theorem weigh_start {D : DU} (hC : Canon D) : weigh D (Maps.has D) = weigh D (fun _ => true) := by
  obtain ⟨es, rfl, _, hk⟩ := hC
  refine sumOn_congr es fun p hp => ?_
  exact List.any_eq_true.2 ⟨p, hp, WideAt.sameKey_self (hk p hp)⟩
theorem weigh_none (D : DU) {left : Lit → Bool} (h : ∀ k, left k = false) : weigh D left = 0 := by
  cases D <;> try rfl
  exact sumOn_none h _
theorem weigh_le (D : DU) (left : Lit → Bool) : weigh D left ≤ weigh D (fun _ => true) := by
  cases D <;> try exact Nat.le_refl _
  exact sumOn_mono (fun _ _ => rfl) _

/-- What the map's datum says, as a plain map. -/
structure Sees (D : DU) (m : M) : Prop where
  has : ∀ k, Maps.has D (kl k) = (m.get k).isSome
  at_ : ∀ k v, m.get k = some v → ∀ zd, D.atKey (kl k) zd = dl v
  tot : weigh D (fun _ => true) = m.tot

theorem sees_empty : Sees (.map []) M.empty := ⟨fun _ => rfl, fun _ _ h => (by cases h), rfl⟩

theorem Sees.value {D : DU} {m : M} (h : Sees D m) (k : ByteArray) : D.atKey (kl k) (dl ByteArray.empty) = dl (m.at k) := by
  unfold M.at
  cases e : m.get k with
  | some v => exact h.at_ k v e _
  | none =>
    have := h.has k
    rw [e] at this
    exact atKey_of_not_has this _

theorem Sees.le {D : DU} {m : M} (h : Sees D m) (hT : Tidy D) (k : ByteArray) : (m.at k).size ≤ m.tot := by
  unfold M.at
  cases e : m.get k with
  | none => simp
  | some v =>
    have := weigh_step hT (left := fun _ => true) rfl (h.at_ k v e)
    rw [h.tot] at this
    simp; omega

theorem Sees.put {D : DU} {m : M} (h : Sees D m) (hT : Tidy D) (k v : ByteArray) : Sees (D.put (kl k) (dl v)) (m.put k v) := by
  have hM := hT.isMap
  refine ⟨fun x => ?_, fun x y e zd => ?_, ?_⟩
  · by_cases e : x = k
    · subst e
      rw [has_put_same hM (kl_key _)]
      simp [M.put]
    · rw [has_put_other (fun e2 => e (kl_inj e2)), h.has]
      simp [M.put, e]
  · by_cases e2 : x = k
    · subst e2
      simp [M.put] at e
      subst e
      exact atKey_put_same hM (kl_key _) _ _
    · rw [atKey_put_other (fun e3 => e2 (kl_inj e3))]
      exact h.at_ x y (by simpa [M.put, e2] using e) zd
  · show _ = m.tot - (m.at k).size + v.size
    have hle := h.le hT k
    have hv := h.value k
    have ht := h.tot
    obtain ⟨es, rfl, hp⟩ := hT
    show sumOn _ (DataW.insert (kl k, dl v) (es.filter fun p => !p.1.sameKey (kl k))) = _
    rw [sumOn_insert]
    have hs := sumOn_strike (fun _ => true) (kl k) (kl_key k) es hp
    change sumOn _ es = _ at ht
    generalize sumOn (fun _ => true) (es.filter fun p => !p.1.sameKey (kl k)) = Y at hs ⊢
    rw [atKey_map] at hv
    unfold found at hv
    cases e : es.find? (fun p => p.1.sameKey (kl k)) with
    | none =>
      rw [e] at hv hs
      simp only at hv hs
      have := dl_inj hv
      rw [← this] at hle ⊢
      simp [len1_dl] at hs ⊢
      omega
    | some p =>
      rw [e] at hv hs
      simp only at hv hs
      rw [hv] at hs
      simp [len1_dl] at hs ⊢
      omega

end Go.Proofs.Ytocaihmadififaa.Dk
