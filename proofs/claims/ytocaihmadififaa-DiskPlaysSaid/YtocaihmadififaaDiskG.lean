/- A disk as it lies in the heap; the small methods. -/
import Derived.Test.YtocaihmadififaaDiskF
import Derived.Test.YtocaihmadififaaMine
import Derived.Test.YtocaihmadififaaProg
import Derived.Below
import Derived.Lib.BufferMore
import Derived.OwnWalk
import Derived.Laws.MakeOwn
import Derived.Maps.AppendAt
import Derived.IntWalk
import Derived.MapKept
import Derived.Lib.SliceRun
import Derived.Laws.Externs
import Derived.Shelf.Abstract
import Derived.Deep.LoopGhost
import Derived.Deep.RegionLaw
import Derived.StringKeys
import Derived.Maps.RangeWalk
import Derived.Tactics
import Derived.WalkKit
import Derived.KernelRfl
import Derived.RowKit3
import Derived.RowKit
import Derived.WalkMore
import Derived.Deep.QuietTactic
import Derived.BigQuiet
import Derived.WideLaws
import Derived.Deep.DeepCutAuto
import Derived.OrdersHeld
import Derived.Test.YtocaihmadififaaWWords
import Derived.Test.YtocaihmadififaaWLast
import Derived.Test.YtocaihmadififaaWFour
import Derived.Test.YtocaihmadififaaWMore
namespace Go.Proofs.Ytocaihmadififaa.Dk
open Go.RowKit Go.Maps Go.Proofs.YtocaihmadififaaW.PrintWords Go.Proofs.YtocaihmadififaaW.PrintLast Go.Proofs.YtocaihmadififaaW.PrintMore
set_option linter.unusedVariables false
set_option linter.unusedSimpArgs false

/-! ### One disk, all of it above a bound: for the laws -/
def At1 (g B : Nat) (w : World) (d : D) : Prop := ∃ F : Foot, F.g = g ∧ IsDisk w F d ∧ (∀ k, F.has k → B ≤ k) ∧ B ≤ w.heap.size

theorem At1.run {g B : Nat} {w : World} {d d' : D} {f : FuncId} {args : Array Value} {r : Value} (h : At1 g B w d)
    (c : ∀ F : Foot, F.g = g → IsDisk w F d → Calls Try.prog f args w fun e w' => e = .returned r ∧ ∃ F', IsDisk w' F' d' ∧ Turn w w' F F') :
    Calls Try.prog f args w fun e w' => e = .returned r ∧ At1 g B w' d' ∧ Below B w w' := by
  obtain ⟨F, hg, HD, hf, hB⟩ := h
  refine (c F hg HD).mono fun e w' ⟨he, F', HD', hT⟩ => ⟨he, ⟨F', hT.g.trans hg, HD', fun k hk => ?_, Nat.le_trans hB hT.size⟩, hT.below (Below.refl B w) hf hB⟩
  rcases hT.foot k hk with e | e
  · exact hf k e
  · omega

theorem At1.new (room : Int) (w : World) : Calls Try.prog 9 #[.int .i64 room] w fun e w' => e = .returned (.pointer (some ⟨w.heap.size + 2, 0, none⟩)) ∧ At1 (w.heap.size + 2) w.heap.size w' (D.new room) ∧ Below w.heap.size w w' := by
  refine (new_calls room w).mono fun e w' ⟨he, HD, hB⟩ => ⟨he, ⟨_, rfl, HD, fun k hk => ?_, hB.size⟩, hB⟩
  rcases hk with e | e | e | e
  · rw [e]; show w.heap.size ≤ w.heap.size + 2; omega
  · rw [e]; exact Nat.le_refl _
  · rw [e]; show w.heap.size ≤ w.heap.size + 1; omega
  · cases e

def D.app (d : D) (name b : ByteArray) : Int × D := d.lay name (d.now.at name ++ b) ⟨name, b, false⟩
def D.put (d : D) (name b : ByteArray) : Int × D := d.lay name b ⟨name, b, true⟩

theorem At1.append {g B : Nat} {w : World} {d : D} (h : At1 g B w d) (hf : d.Fit) (name b : ByteArray) (hn : name.size ≤ 1152921504606846976) (hb : b.size ≤ 1152921504606846) :
    Calls Try.prog 10 #[.pointer (some ⟨g, 0, none⟩), .string name, .string b] w fun e w' => e = .returned (.int .i64 (d.app name b).1) ∧ At1 g B w' (d.app name b).2 ∧ Below B w w' :=
  h.run fun F hg HD => by subst hg; exact append_calls HD hf name b hn hb
theorem At1.put {g B : Nat} {w : World} {d : D} (h : At1 g B w d) (hf : d.Fit) (name b : ByteArray) (hn : name.size ≤ 1152921504606846976) (hb : b.size ≤ 1152921504606846976) :
    Calls Try.prog 14 #[.pointer (some ⟨g, 0, none⟩), .string name, .string b] w fun e w' => e = .returned (.int .i64 (d.put name b).1) ∧ At1 g B w' (d.put name b).2 ∧ Below B w w' :=
  h.run fun F hg HD => by subst hg; exact put_calls HD hf name b hn hb
theorem At1.sync {g B : Nat} {w : World} {d : D} (h : At1 g B w d) (hf : d.Fit) (name : ByteArray) (hn : name.size ≤ 1152921504606846976) :
    Calls Try.prog 11 #[.pointer (some ⟨g, 0, none⟩), .string name] w fun e w' => e = .returned (.int .i64 (d.sync name).1) ∧ At1 g B w' (d.sync name).2 ∧ Below B w w' :=
  h.run fun F hg HD => by subst hg; exact sync_calls HD hf name hn
theorem At1.crash {g B : Nat} {w : World} {d : D} (h : At1 g B w d) (hf : d.Fit) (keep : Int) (hk0 : 0 ≤ keep) (hk1 : keep ≤ 18446744073709551615) (hsz : d.kept.tot + sumB d.pend ≤ 1152921504606846976) (hnm : ∀ o ∈ d.pend, o.name.size ≤ 1152921504606846976) :
    Calls Try.prog 12 #[.pointer (some ⟨g, 0, none⟩), .int .u64 keep] w fun e w' => e = .returned (.tuple #[]) ∧ At1 g B w' (d.crash keep) ∧ Below B w w' :=
  h.run fun F hg HD => by subst hg; exact crash_calls HD hf keep hk0 hk1 hsz hnm
theorem At1.limit {g B : Nat} {w : World} {d : D} (h : At1 g B w d) (k : Int) :
    Calls Try.prog 15 #[.pointer (some ⟨g, 0, none⟩), .int .i64 k] w fun e w' => e = .returned (.tuple #[]) ∧ At1 g B w' (d.limit k) ∧ Below B w w' :=
  h.run fun F hg HD => by subst hg; exact (limit_calls HD k).mono fun e w' ⟨he, h1, h2⟩ => ⟨he, F, h1, h2⟩
theorem At1.read {g B : Nat} {w : World} {d : D} (h : At1 g B w d) (name : ByteArray) (hn : name.size ≤ maxLen) :
    Calls Try.prog 13 #[.pointer (some ⟨g, 0, none⟩), .string name] w fun e w' => e = .returned (.tuple #[.string (d.read name).1, .int .i64 (d.read name).2]) ∧ w' = w := by
  obtain ⟨F, rfl, HD, _, _⟩ := h
  exact read_calls HD name hn
-- steps told
theorem At1.steps {g B : Nat} {w : World} {d : D} (h : At1 g B w d) :
    Calls Try.prog 16 #[.pointer (some ⟨g, 0, none⟩)] w fun e w' => e = .returned (.int .i64 d.steps) ∧ w' = w := by
  obtain ⟨F, rfl, HD, _, _⟩ := h
  exact steps_calls HD

-- steps told end
theorem At1.alloc {g B : Nat} {w : World} {d : D} (h : At1 g B w d) (o : Obj) : At1 g B (w.alloc o) d := by
  obtain ⟨F, hg, HD, hf, hB⟩ := h
  exact ⟨F, hg, HD.alloc o, hf, by simp; omega⟩

end Go.Proofs.Ytocaihmadififaa.Dk
