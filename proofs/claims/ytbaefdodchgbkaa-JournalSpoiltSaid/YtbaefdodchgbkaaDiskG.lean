/- A disk as it lies in the heap; the small methods. -/
import Derived.Test.YtbaefdodchgbkaaDiskF
import Derived.Test.YtbaefdodchgbkaaMine
import Derived.Test.YtbaefdodchgbkaaProg
import Derived.Below
import Derived.Lib.BufferMore
import Derived.OwnWalk
import Derived.Laws.MakeOwn
import Derived.Maps.AppendAt
import Derived.IntWalk
import Derived.MapKept
import Derived.Lib.SliceRun
import Derived.Laws.Externs
import Derived.Shelf.Abstract
import Derived.Deep.LoopGhost
import Derived.Deep.RegionLaw
import Derived.StringKeys
import Derived.Maps.RangeWalk
import Derived.Tactics
import Derived.WalkKit
import Derived.KernelRfl
import Derived.RowKit3
import Derived.RowKit
import Derived.WalkMore
import Derived.Deep.QuietTactic
import Derived.BigQuiet
import Derived.WideLaws
import Derived.Deep.DeepCutAuto
import Derived.OrdersHeld
import Derived.Test.YtbaefdodchgbkaaWWords
import Derived.Test.YtbaefdodchgbkaaWLast
import Derived.Test.YtbaefdodchgbkaaWFour
import Derived.Test.YtbaefdodchgbkaaWMore
namespace Go.Proofs.Ytbaefdodchgbkaa.Dk
open Go.RowKit Go.Maps Go.Proofs.YtbaefdodchgbkaaW.PrintWords Go.Proofs.YtbaefdodchgbkaaW.PrintLast Go.Proofs.YtbaefdodchgbkaaW.PrintMore
set_option linter.unusedVariables false
set_option linter.unusedSimpArgs false

/-! ### One disk, all of it above a bound, and none of some other blocks: for the laws -/
def Same (N : Nat → Prop) (w w' : World) : Prop := ∀ k, N k → w'.heap[k]? = w.heap[k]?
def At1 (N : Nat → Prop) (g B : Nat) (w : World) (d : D) : Prop := ∃ F : Foot, F.g = g ∧ IsDisk w F d ∧ (∀ k, F.has k → B ≤ k) ∧ B ≤ w.heap.size ∧ ∀ k, N k → k < w.heap.size ∧ ¬ F.has k

theorem At1.run {N : Nat → Prop} {g B : Nat} {w : World} {d d' : D} {f : FuncId} {args : Array Value} {r : Value} (h : At1 N g B w d)
    (c : ∀ F : Foot, F.g = g → IsDisk w F d → Calls Try.prog f args w fun e w' => e = .returned r ∧ ∃ F', IsDisk w' F' d' ∧ Turn w w' F F') :
    Calls Try.prog f args w fun e w' => e = .returned r ∧ At1 N g B w' d' ∧ Below B w w' ∧ Same N w w' := by
  obtain ⟨F, hg, HD, hf, hB, hN⟩ := h
  refine (c F hg HD).mono fun e w' ⟨he, F', HD', hT⟩ => ⟨he, ⟨F', hT.g.trans hg, HD', fun k hk => ?_, Nat.le_trans hB hT.size, fun k hk => ⟨Nat.lt_of_lt_of_le (hN k hk).1 hT.size, fun hk' => ?_⟩⟩, hT.below (Below.refl B w) hf hB, fun k hk => hT.block k (hN k hk).1 (hN k hk).2⟩
  · rcases hT.foot k hk with e | e
    · exact hf k e
    · omega
  · rcases hT.foot k hk' with e | e
    · exact (hN k hk).2 e
    · have := (hN k hk).1; omega
/-- Another world, in which nothing of the elder one has turned; what is new may be kept too. -/
theorem At1.more {N : Nat → Prop} {g B : Nat} {w w' : World} {d : D} (h : At1 N g B w d) (hb : Below w.heap.size w w') : At1 (fun k => N k ∨ (w.heap.size ≤ k ∧ k < w'.heap.size)) g B w' d := by
  obtain ⟨F, hg, HD, hf, hB, hN⟩ := h
  refine ⟨F, hg, HD.kept_ (fun k hk => hb.block k (HD.lt k hk)), hf, Nat.le_trans hB hb.size, fun k hk => ?_⟩
  rcases hk with hk | ⟨h1, h2⟩
  · exact ⟨Nat.lt_of_lt_of_le (hN k hk).1 hb.size, (hN k hk).2⟩
  · exact ⟨h2, fun e => by have := HD.lt k e; omega⟩
theorem At1.less {N N' : Nat → Prop} {g B : Nat} {w : World} {d : D} (h : At1 N g B w d) (hn : ∀ k, N' k → N k) : At1 N' g B w d := by
  obtain ⟨F, hg, HD, hf, hB, hN⟩ := h
  exact ⟨F, hg, HD, hf, hB, fun k hk => hN k (hn k hk)⟩
theorem At1.on {N : Nat → Prop} {g B : Nat} {w w' : World} {d : D} (h : At1 N g B w d) (hb : Below w.heap.size w w') : At1 N g B w' d := (h.more hb).less (fun _ hk => .inl hk)
theorem At1.top {N : Nat → Prop} {g B : Nat} {w : World} {d : D} (h : At1 N g B w d) : B ≤ w.heap.size := by
  obtain ⟨F, hg, HD, hf, hB, hN⟩ := h
  exact hB
theorem At1.same {N : Nat → Prop} {g B : Nat} {w w' : World} {d : D} (h : At1 N g B w d) (hb : Below w.heap.size w w') : Same N w w' := by
  obtain ⟨F, hg, HD, hf, hB, hN⟩ := h
  exact fun k hk => hb.block k (hN k hk).1
theorem Same.trans {N : Nat → Prop} {w w1 w2 : World} (h : Same N w w1) (k : Same N w1 w2) : Same N w w2 := fun i hi => (k i hi).trans (h i hi)
theorem Same.less {N N' : Nat → Prop} {w w1 : World} (h : Same N w w1) (hn : ∀ k, N' k → N k) : Same N' w w1 := fun i hi => h i (hn i hi)

theorem At1.new (room : Int) (w : World) : Calls Try.prog 13 #[.int .i64 room] w fun e w' => e = .returned (.pointer (some ⟨w.heap.size + 2, 0, none⟩)) ∧ At1 (fun _ => False) (w.heap.size + 2) w.heap.size w' (D.new room) ∧ Below w.heap.size w w' := by
  refine (new_calls room w).mono fun e w' ⟨he, HD, hB⟩ => ⟨he, ⟨_, rfl, HD, fun k hk => ?_, hB.size, fun _ h => h.elim⟩, hB⟩
  rcases hk with e | e | e | e
  · rw [e]; show w.heap.size ≤ w.heap.size + 2; omega
  · rw [e]; exact Nat.le_refl _
  · rw [e]; show w.heap.size ≤ w.heap.size + 1; omega
  · cases e

def D.app (d : D) (name b : ByteArray) : Int × D := d.lay name (d.now.at name ++ b) ⟨name, b, false⟩
def D.put (d : D) (name b : ByteArray) : Int × D := d.lay name b ⟨name, b, true⟩

theorem At1.append {N : Nat → Prop} {g B : Nat} {w : World} {d : D} (h : At1 N g B w d) (hf : d.Fit) (name b : ByteArray) (hn : name.size ≤ 1152921504606846976) (hb : b.size ≤ 1152921504606846) :
    Calls Try.prog 33 #[.pointer (some ⟨g, 0, none⟩), .string name, .string b] w fun e w' => e = .returned (.int .i64 (d.app name b).1) ∧ At1 N g B w' (d.app name b).2 ∧ Below B w w' ∧ Same N w w' :=
  h.run fun F hg HD => by subst hg; exact append_calls HD hf name b hn hb
theorem At1.put {N : Nat → Prop} {g B : Nat} {w : World} {d : D} (h : At1 N g B w d) (hf : d.Fit) (name b : ByteArray) (hn : name.size ≤ 1152921504606846976) (hb : b.size ≤ 1152921504606846976) :
    Calls Try.prog 14 #[.pointer (some ⟨g, 0, none⟩), .string name, .string b] w fun e w' => e = .returned (.int .i64 (d.put name b).1) ∧ At1 N g B w' (d.put name b).2 ∧ Below B w w' ∧ Same N w w' :=
  h.run fun F hg HD => by subst hg; exact put_calls HD hf name b hn hb
theorem At1.sync {N : Nat → Prop} {g B : Nat} {w : World} {d : D} (h : At1 N g B w d) (hf : d.Fit) (name : ByteArray) (hn : name.size ≤ 1152921504606846976) :
    Calls Try.prog 15 #[.pointer (some ⟨g, 0, none⟩), .string name] w fun e w' => e = .returned (.int .i64 (d.sync name).1) ∧ At1 N g B w' (d.sync name).2 ∧ Below B w w' ∧ Same N w w' :=
  h.run fun F hg HD => by subst hg; exact sync_calls HD hf name hn
theorem At1.crash {N : Nat → Prop} {g B : Nat} {w : World} {d : D} (h : At1 N g B w d) (hf : d.Fit) (keep : Int) (hk0 : 0 ≤ keep) (hk1 : keep ≤ 18446744073709551615) (hsz : d.kept.tot + sumB d.pend ≤ 1152921504606846976) (hnm : ∀ o ∈ d.pend, o.name.size ≤ 1152921504606846976) :
    Calls Try.prog 20 #[.pointer (some ⟨g, 0, none⟩), .int .u64 keep] w fun e w' => e = .returned (.tuple #[]) ∧ At1 N g B w' (d.crash keep) ∧ Below B w w' ∧ Same N w w' :=
  h.run fun F hg HD => by subst hg; exact crash_calls HD hf keep hk0 hk1 hsz hnm
theorem At1.limit {N : Nat → Prop} {g B : Nat} {w : World} {d : D} (h : At1 N g B w d) (k : Int) :
    Calls Try.prog 19 #[.pointer (some ⟨g, 0, none⟩), .int .i64 k] w fun e w' => e = .returned (.tuple #[]) ∧ At1 N g B w' (d.limit k) ∧ Below B w w' ∧ Same N w w' :=
  h.run fun F hg HD => by subst hg; exact (limit_calls HD k).mono fun e w' ⟨he, h1, h2⟩ => ⟨he, F, h1, h2⟩
theorem At1.read {N : Nat → Prop} {g B : Nat} {w : World} {d : D} (h : At1 N g B w d) (name : ByteArray) (hn : name.size ≤ maxLen) :
    Calls Try.prog 17 #[.pointer (some ⟨g, 0, none⟩), .string name] w fun e w' => e = .returned (.tuple #[.string (d.read name).1, .int .i64 (d.read name).2]) ∧ w' = w := by
  obtain ⟨F, rfl, HD, _, _, _⟩ := h
  exact read_calls HD name hn

end Go.Proofs.Ytbaefdodchgbkaa.Dk
