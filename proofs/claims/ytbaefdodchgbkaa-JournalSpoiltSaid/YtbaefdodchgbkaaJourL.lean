/- few and same, told by plain lists; what the journal's laws share. -/
import Derived.Test.YtbaefdodchgbkaaJourK
import Derived.Test.YtbaefdodchgbkaaStrs
import Derived.Test.YtbaefdodchgbkaaNumE
namespace Go.Proofs.Ytbaefdodchgbkaa.Dk
open Go.RowKit Go.Maps Go.Proofs.YtbaefdodchgbkaaW.PrintWords Go.Proofs.YtbaefdodchgbkaaW.PrintLast Go.Proofs.YtbaefdodchgbkaaW.PrintMore Go.Proofs.Ytbaefdodchgbkaa.Print Go.Proofs.Ytbaefdodchgbkaa.Num
set_option linter.unusedVariables false
set_option linter.unusedSimpArgs false

theorem rd_get (l : List ByteArray) (i : Nat) (h : i < l.length) : rdOf ByteArray.empty l (i : Int) = l[i] := by
  unfold rdOf
  rw [Int.toNat_natCast, List.getD_eq_getElem?_getD, List.getElem?_eq_getElem h, Option.getD_some]
theorem w1 (i : Nat) (h : i ≤ 8796093022208) : wrap64 ((i : Int) + 1) = ((i + 1 : Nat) : Int) := by rw [wrap64_of (by omega) (by omega)]; omega
theorem few_l0 (l : List ByteArray) (hl : l.length ≤ 8796093022208) : ∀ (d i : Nat), i + d = l.length → (∀ j (h : j < l.length), j < i → l[j].size ≤ 100) →
    ∃ b, vedettelaw21_few.l0 (d + 1) l (i : Int) = some b ∧ (b = true → l.length ≤ 10 ∧ ∀ t ∈ l, t.size ≤ 100)
  | 0, i, h, ha => by
    simp only [vedettelaw21_few.l0]
    rw [if_neg (by omega)]
    refine ⟨_, rfl, fun hb => ⟨by have := of_decide_eq_true hb; omega, fun t ht => ?_⟩⟩
    obtain ⟨j, hj, rfl⟩ := List.getElem_of_mem ht
    exact ha j hj (by omega)
  | d + 1, i, h, ha => by
    rw [vedettelaw21_few.l0, if_pos (by omega), if_pos (by omega), rd_get l i (by omega)]
    by_cases hz : (l[i].size : Int) > 100
    · rw [if_pos hz]; exact ⟨false, rfl, fun h => by cases h⟩
    · rw [if_neg hz, w1 i (by omega)]
      exact few_l0 l hl d (i + 1) (by omega) (fun j hj hji => by
        rcases Nat.lt_or_ge j i with h | h
        · exact ha j hj h
        · obtain rfl : j = i := by omega
          omega)
theorem few_f (l : List ByteArray) (hl : l.length ≤ 8796093022208) : ∃ b, vedettelaw21_few.f (l.length + 1) l = some b ∧ (b = true → l.length ≤ 10 ∧ ∀ t ∈ l, t.size ≤ 100) :=
  few_l0 l hl l.length 0 (by omega) (fun j _ h => by omega)
theorem same_l0 (l m : List ByteArray) (hl : l.length ≤ 8796093022208) (hm : l.length = m.length) : ∀ (d i : Nat), i + d = l.length → ∃ r, vedettelaw21_same.l0 (d + 1) l m (i : Int) = some r ∧ (l = m → r = true)
  | 0, i, h => by
    simp only [vedettelaw21_same.l0]
    rw [if_neg (by omega)]
    exact ⟨_, rfl, fun _ => rfl⟩
  | d + 1, i, h => by
    rw [vedettelaw21_same.l0, if_pos (by omega), if_pos (by omega), if_pos (by omega), rd_get l i (by omega), rd_get m i (by omega)]
    by_cases hz : (l[i]'(by omega)).toList = (m[i]'(by omega)).toList
    · rw [if_pos hz, w1 i (by omega)]
      exact same_l0 l m hl hm d (i + 1) (by omega)
    · rw [if_neg hz]
      exact ⟨_, rfl, fun e => by subst e; exact absurd rfl hz⟩
theorem same_f (l m : List ByteArray) (hl : l.length ≤ 8796093022208) : ∃ r, vedettelaw21_same.f (l.length + 1) l m = some r ∧ (l = m → r = true) := by
  unfold vedettelaw21_same.f
  by_cases h : (l.length : Int) = (m.length : Int)
  · rw [if_pos h]
    exact same_l0 l m hl (by omega) l.length 0 (by omega)
  · rw [if_neg h]
    exact ⟨_, rfl, fun e => by subst e; exact absurd rfl h⟩

/-- A row of strings that is read. -/
def Rd (w : World) (A : Option Addr) (n c : Nat) (l : List ByteArray) : Prop := n = l.length ∧ l.length ≤ c ∧ Kd.string.C w A l.length l
theorem Rd.of {w : World} {A : Option Addr} {c : Nat} {l : List ByteArray} (h : ReadsOf Value.string ByteArray.empty w A l.length l) (hc : l.length ≤ c) : Rd w A l.length c l := ⟨rfl, hc, Kd.C_of_reads (d := ByteArray.empty) (h1 := fun _ => rfl) h⟩
theorem Rd.on {w w' : World} {A : Option Addr} {n c : Nat} {l : List ByteArray} (h : Rd w A n c l) (hb : Below w.heap.size w w') : Rd w' A n c l := ⟨h.1, h.2.1, Kd.C_below h.2.2 hb⟩
theorem Row.rd {N : Nat → Prop} {w : World} {A : Option Addr} {n c : Nat} {l : List ByteArray} (h : Row N w (.slice A n c) l) : Rd w A n c l := by
  obtain ⟨A', c', e, hc, hC⟩ := h.reads
  cases e
  exact ⟨rfl, hc, hC⟩
theorem Row.slice {N : Nat → Prop} {w : World} {v : Value} {l : List ByteArray} (h : Row N w v l) : ∃ A c, v = .slice A l.length c := by
  obtain ⟨A, c, e, _⟩ := h.reads
  exact ⟨A, c, e⟩
theorem few_calls {w : World} {A : Option Addr} {n c : Nat} {l : List ByteArray} (h : Rd w A n c l) {b : Bool} (hf : vedettelaw21_few.f (l.length + 1) l = some b) :
    Calls Try.prog 8 #[.slice A n c] w fun e w' => e = .returned (.bool b) ∧ Below w.heap.size w w' := by
  obtain ⟨rfl, hc, hC⟩ := h
  exact (vedettelaw21_few.calls _ A c l b w hC hc hf).mono fun e w' ⟨he, hd⟩ => ⟨he, hd.below⟩
theorem eqs_calls {w : World} {A A' : Option Addr} {n c n' c' : Nat} {l m : List ByteArray} (h : Rd w A n c l) (h' : Rd w A' n' c' m) {b : Bool} (hf : vedettelaw21_same.f (l.length + 1) l m = some b) :
    Calls Try.prog 12 #[.slice A n c, .slice A' n' c'] w fun e w' => e = .returned (.bool b) ∧ Below w.heap.size w w' := by
  obtain ⟨rfl, hc, hC⟩ := h
  obtain ⟨rfl, hc', hC'⟩ := h'
  exact (vedettelaw21_same.calls _ A c l A' c' m b w hC hc hC' hc' hf).mono fun e w' ⟨he, hd⟩ => ⟨he, hd.below⟩

end Go.Proofs.Ytbaefdodchgbkaa.Dk
