/- The document's disk: Crash, its first round. -/
import Derived.Test.YtocaihmadififaaRefD
import Derived.Test.YtocaihmadififaaMine
import Derived.Test.YtocaihmadififaaProg
import Derived.Below
import Derived.Lib.BufferMore
import Derived.OwnWalk
import Derived.Laws.MakeOwn
import Derived.Maps.AppendAt
import Derived.IntWalk
import Derived.MapKept
import Derived.Lib.SliceRun
import Derived.Laws.Externs
import Derived.Shelf.Abstract
import Derived.Deep.LoopGhost
import Derived.Deep.RegionLaw
import Derived.Deep.RegionWith
import Derived.RegionTactic
import Derived.ChangeAlike
import Derived.BigRegion
import Derived.StringKeys
import Derived.Maps.RangeWalk
import Derived.Tactics
import Derived.WalkKit
import Derived.KernelRfl
import Derived.RowKit3
import Derived.RowKit
import Derived.WalkMore
import Derived.Deep.QuietTactic
import Derived.BigQuiet
import Derived.WideLaws
import Derived.Deep.DeepCutAuto
import Derived.OrdersHeld
import Derived.Test.YtocaihmadififaaWWords
import Derived.Test.YtocaihmadififaaWLast
import Derived.Test.YtocaihmadififaaWFour
import Derived.Test.YtocaihmadififaaWMore
namespace Go.Proofs.Ytocaihmadififaa.Dk
open Go.RowKit Go.Maps Go.Proofs.YtocaihmadififaaW.PrintWords Go.Proofs.YtocaihmadififaaW.PrintLast Go.Proofs.YtocaihmadififaaW.PrintMore
set_option linter.unusedVariables false
set_option linter.unusedSimpArgs false

/-! ### Crash: what is pending, one behind the other -/
def updF (name : ByteArray) (g : Fl → Fl) : List Fl → List Fl
  | [] => []
  | x :: r => if x.name = name then g x :: r else x :: updF name g r
theorem updF_set (name : ByteArray) (g : Fl → Fl) : ∀ (l : List Fl) (k : Nat) (hk : k < l.length), l[k].name = name → (∀ j (hj : j < k), (l[j]'(by omega)).name ≠ name) → updF name g l = l.set k (g l[k])
  | [], k, hk, _, _ => by simp at hk
  | x :: r, 0, _, h, _ => by
    have h' : x.name = name := h
    simp [updF, h']
  | x :: r, k + 1, hk, h, hn => by
    have h0 : x.name ≠ name := hn 0 (by omega)
    simp only [updF, if_neg h0, List.set_cons_succ, List.getElem_cons_succ]
    congr 1
    exact updF_set name g r k (by simpa using hk) h (fun j hj => hn (j + 1) (by omega))
theorem updF_len (name : ByteArray) (g : Fl → Fl) : ∀ l, (updF name g l).length = l.length
  | [] => rfl
  | x :: r => by
    unfold updF
    split
    · rfl
    · simp [updF_len name g r]
theorem updF_mem {name : ByteArray} {g : Fl → Fl} {f : Fl} : ∀ {l : List Fl}, f ∈ updF name g l → f ∈ l ∨ ∃ x ∈ l, f = g x
  | [], h => by simp [updF] at h
  | x :: r, h => by
    unfold updF at h
    split at h
    · rcases List.mem_cons.1 h with rfl | h
      · exact .inr ⟨x, by simp, rfl⟩
      · exact .inl (by simp [h])
    · rcases List.mem_cons.1 h with rfl | h
      · exact .inl (by simp)
      · rcases updF_mem h with h | ⟨y, hy, e⟩
        · exact .inl (by simp [h])
        · exact .inr ⟨y, by simp [hy], e⟩
theorem updF_names {name : ByteArray} {g : Fl → Fl} (hg : ∀ f, (g f).name = f.name) : ∀ l : List Fl, (updF name g l).map Fl.name = l.map Fl.name
  | [] => rfl
  | x :: r => by
    unfold updF
    split
    · simp [hg]
    · simp [updF_names hg r]
def kset (b : ByteArray) (f : Fl) : Fl := { f with kept := b, is := true }
def kadd (b : ByteArray) (f : Fl) : Fl := { f with kept := f.kept ++ b, is := true }
def rcF (keep : Int) (i : Nat) (o : Op) (l : List Fl) : List Fl :=
  if bitOf keep i && o.put then updF o.name (kset o.b) l
  else if bitOf keep i then updF o.name (kadd o.b) l
  else if !o.put && decide (0 < (half o.b).size) then updF o.name (kadd (half o.b)) l
  else l
def rcL (keep : Int) (i : Nat) (o : Op) (lost : List ByteArray) : List ByteArray := if bitOf keep i then lost else lost ++ [o.name]
/-- What is looked for among the lost. -/
def gone (name : ByteArray) (lost : List ByteArray) (k : Nat) : Bool := (lost.take k).any (fun x => decide (x = name))
theorem gone_next {name : ByteArray} {lost : List ByteArray} {k : Nat} (hk : k < lost.length) : gone name lost (k + 1) = (gone name lost k || (lost[k].toList == name.toList)) := by
  unfold gone
  rw [List.take_succ_eq_append_getElem hk, List.any_append, same_eq]
  simp
abbrev lostAt (name : ByteArray) (lost : List ByteArray) : Bool := gone name lost lost.length
theorem lostAt_eq {name : ByteArray} {lost : List ByteArray} : lostAt name lost = lost.any (fun x => decide (x = name)) := by
  unfold lostAt gone
  rw [List.take_length]
theorem lostAt_snoc {name n2 : ByteArray} {lost : List ByteArray} : lostAt name (lost ++ [n2]) = (lostAt name lost || decide (n2 = name)) := by
  simp [lostAt_eq]

def rcGo (keep : Int) (i : Nat) (l : List Fl) (lost : List ByteArray) : List Op → List Fl
  | [] => l
  | o :: r => if lostAt o.name lost then rcGo keep (i + 1) l lost r else rcGo keep (i + 1) (rcF keep i o l) (rcL keep i o lost) r
theorem rcF_names (keep : Int) (i : Nat) (o : Op) (l : List Fl) : (rcF keep i o l).map Fl.name = l.map Fl.name := by
  unfold rcF
  split
  · exact updF_names (g := kset o.b) (fun _ => rfl) l
  · split
    · exact updF_names (g := kadd o.b) (fun _ => rfl) l
    · split
      · exact updF_names (g := kadd (half o.b)) (fun _ => rfl) l
      · rfl
theorem rcF_len (keep : Int) (i : Nat) (o : Op) (l : List Fl) : (rcF keep i o l).length = l.length := by
  have := congrArg List.length (rcF_names keep i o l)
  simpa using this
theorem rcF_kept {keep : Int} {i : Nat} {o : Op} {l : List Fl} {Z : Nat} (h : ∀ f ∈ l, f.kept.size ≤ Z) : ∀ f ∈ rcF keep i o l, f.kept.size ≤ Z + o.b.size := by
  have hh := half_size o.b
  intro f hf
  unfold rcF at hf
  split at hf
  · rcases updF_mem hf with h1 | ⟨x, hx, rfl⟩
    · have := h f h1; omega
    · show o.b.size ≤ _; omega
  · split at hf
    · rcases updF_mem hf with h1 | ⟨x, hx, rfl⟩
      · have := h f h1; omega
      · have := h x hx
        show (x.kept ++ o.b).size ≤ _; rw [ByteArray.size_append]; omega
    · split at hf
      · rcases updF_mem hf with h1 | ⟨x, hx, rfl⟩
        · have := h f h1; omega
        · have := h x hx
          show (x.kept ++ half o.b).size ≤ _; rw [ByteArray.size_append]; omega
      · have := h f hf; omega
theorem fat_of_names {name : ByteArray} {l : List Fl} (h : name ∈ l.map Fl.name) : ∃ (k : Nat) (hk : k < l.length), fat name l = (k : Int) ∧ l[k].name = name ∧ ∀ j (hj : j < k), (l[j]'(by omega)).name ≠ name := by
  rcases fat_cases name l with ⟨k, hk, hf, hn, _, hb⟩ | ⟨_, _, hno⟩
  · exact ⟨k, hk, hf, hn, hb⟩
  · obtain ⟨f, hf, rfl⟩ := List.mem_map.1 h
    exact absurd rfl (hno f hf)
end Go.Proofs.Ytocaihmadififaa.Dk
