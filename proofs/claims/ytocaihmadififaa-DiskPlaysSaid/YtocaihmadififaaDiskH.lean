/- A disk as it lies in the heap; the small methods. -/
import Derived.Test.YtocaihmadififaaDiskG
import Derived.Test.YtocaihmadififaaMine
import Derived.Test.YtocaihmadififaaProg
import Derived.Below
import Derived.Lib.BufferMore
import Derived.OwnWalk
import Derived.Laws.MakeOwn
import Derived.Maps.AppendAt
import Derived.IntWalk
import Derived.Laws.IdiomStrings
import Derived.MapKept
import Derived.Lib.SliceRun
import Derived.Laws.Externs
import Derived.Shelf.Abstract
import Derived.Deep.LoopGhost
import Derived.Deep.RegionLaw
import Derived.StringKeys
import Derived.Maps.RangeWalk
import Derived.Tactics
import Derived.WalkKit
import Derived.KernelRfl
import Derived.RowKit3
import Derived.RowKit
import Derived.WalkMore
import Derived.Deep.QuietTactic
import Derived.BigQuiet
import Derived.WideLaws
import Derived.Deep.DeepCutAuto
import Derived.OrdersHeld
import Derived.Test.YtocaihmadififaaWWords
import Derived.Test.YtocaihmadififaaWLast
import Derived.Test.YtocaihmadififaaWFour
import Derived.Test.YtocaihmadififaaWMore
namespace Go.Proofs.Ytocaihmadififaa.Dk
open Go.RowKit Go.Maps Go.Proofs.YtocaihmadififaaW.PrintWords Go.Proofs.YtocaihmadififaaW.PrintLast Go.Proofs.YtocaihmadififaaW.PrintMore
set_option linter.unusedVariables false
set_option linter.unusedSimpArgs false

/-! ### known -/
def sa : ByteArray := ⟨#[97]⟩
def sb : ByteArray := ⟨#[98]⟩
def sab : ByteArray := ⟨#[97, 98]⟩
def abcd : ByteArray := ⟨#[97, 98, 99, 100]⟩
def xyz : ByteArray := ⟨#[120, 121, 122]⟩
def s99 : ByteArray := ⟨Array.replicate 99 0⟩
def k0 : D := D.new 100
def k1 : D := (k0.app sa abcd).2
def k2 : D := k1.crash 0
def k3 : D := (k2.sync sa).2
def k4 : D := (k3.put sa xyz).2
def k5 : D := k4.crash 0
def k6 : D := k5.limit 0
set_option maxRecDepth 100000
theorem fit_of {d : D} (h : decide (0 ≤ d.steps ∧ d.steps ≤ 100 ∧ -1 ≤ d.left ∧ d.left ≤ 100 ∧ 0 ≤ d.room ∧ d.room ≤ 1000 ∧ d.nn ≤ 100 ∧ d.kn ≤ 100 ∧ d.pend.length ≤ 100 ∧ d.now.tot ≤ 1000) = true) : d.Fit := by
  obtain ⟨h1, h2, h3, h4, h5, h6, h7, h8, h9, h10⟩ := of_decide_eq_true h
  exact ⟨h1, by omega, h3, by omega, h5, by omega, by omega, by omega, by omega, by omega⟩
theorem names_of {d : D} (h : d.pend.all (fun o => decide (o.name.size ≤ 1000)) = true) : ∀ o ∈ d.pend, o.name.size ≤ 1152921504606846976 := by
  intro o ho
  have := List.all_eq_true.1 h o ho
  have := of_decide_eq_true this
  omega
theorem sum_of {d : D} (h : decide (d.kept.tot + sumB d.pend ≤ 1000) = true) : d.kept.tot + sumB d.pend ≤ 1152921504606846976 := by
  have := of_decide_eq_true h
  omega
theorem lay_25 {d : D} {n b : ByteArray} {o : Op} (h : (d.lay n b o).1 = 25) : (d.lay n b o).2 = d := by
  unfold D.lay at *
  split
  · rfl
  · split
    · rfl
    · rename_i h1 h2
      rw [if_neg h1, if_neg h2] at h
      cases h
theorem fit0 : k0.Fit := fit_of (by kernel_rfl)
theorem fit1 : k1.Fit := fit_of (by kernel_rfl)
theorem fit2 : k2.Fit := fit_of (by kernel_rfl)
theorem fit3 : k3.Fit := fit_of (by kernel_rfl)
theorem fit4 : k4.Fit := fit_of (by kernel_rfl)
theorem fit5 : k5.Fit := fit_of (by kernel_rfl)
theorem e0 : (k0.app sa abcd).1 = 0 := by kernel_rfl
theorem e1 : (k1.sync sb).1 = 23 := by kernel_rfl
theorem e2 : k2.read sa = (sab, 0) := by kernel_rfl
theorem e3 : (k2.sync sa).1 = 0 := by kernel_rfl
theorem e4 : (k3.put sa xyz).1 = 0 := by kernel_rfl
theorem e5 : k5.read sa = (sab, 0) := by kernel_rfl
theorem e6 : (k5.app sa s99).1 = 25 := by kernel_rfl
theorem e7 : k6.read sa = (ByteArray.empty, 22) := by kernel_rfl
theorem e8 : k6.steps = 3 := by kernel_rfl

section
variable {g B : Nat} {w : World}
theorem r0 (h : At1 g B w k0) : Calls Try.prog 10 #[.pointer (some ⟨g, 0, none⟩), .string ⟨#[97]⟩, .string ⟨#[97, 98, 99, 100]⟩] w fun e w' => e = .returned (.int .i64 0) ∧ At1 g B w' k1 ∧ Below B w w' := by
  have := h.append fit0 sa abcd (by decide) (by decide)
  rw [e0] at this
  exact this
theorem r1 (h : At1 g B w k1) : Calls Try.prog 11 #[.pointer (some ⟨g, 0, none⟩), .string ⟨#[98]⟩] w fun e w' => e = .returned (.int .i64 23) ∧ At1 g B w' k1 ∧ Below B w w' := by
  have := h.sync fit1 sb (by decide)
  rw [e1, show (k1.sync sb).2 = k1 from rfl] at this
  exact this
theorem r2 (h : At1 g B w k1) : Calls Try.prog 12 #[.pointer (some ⟨g, 0, none⟩), .int .u64 0] w fun e w' => e = .returned (.tuple #[]) ∧ At1 g B w' k2 ∧ Below B w w' :=
  h.crash fit1 0 (by decide) (by decide) (sum_of (by kernel_rfl)) (names_of (by kernel_rfl))
theorem r3 (h : At1 g B w k2) : Calls Try.prog 13 #[.pointer (some ⟨g, 0, none⟩), .string ⟨#[97]⟩] w fun e w' => e = .returned (.tuple #[.string ⟨#[97, 98]⟩, .int .i64 0]) ∧ w' = w := by
  have := h.read sa (by decide)
  rw [e2] at this
  exact this
theorem r4 (h : At1 g B w k2) : Calls Try.prog 11 #[.pointer (some ⟨g, 0, none⟩), .string ⟨#[97]⟩] w fun e w' => e = .returned (.int .i64 0) ∧ At1 g B w' k3 ∧ Below B w w' := by
  have := h.sync fit2 sa (by decide)
  rw [e3] at this
  exact this
theorem r5 (h : At1 g B w k3) : Calls Try.prog 14 #[.pointer (some ⟨g, 0, none⟩), .string ⟨#[97]⟩, .string ⟨#[120, 121, 122]⟩] w fun e w' => e = .returned (.int .i64 0) ∧ At1 g B w' k4 ∧ Below B w w' := by
  have := h.put fit3 sa xyz (by decide) (by decide)
  rw [e4] at this
  exact this
theorem r6 (h : At1 g B w k4) : Calls Try.prog 12 #[.pointer (some ⟨g, 0, none⟩), .int .u64 0] w fun e w' => e = .returned (.tuple #[]) ∧ At1 g B w' k5 ∧ Below B w w' :=
  h.crash fit4 0 (by decide) (by decide) (sum_of (by kernel_rfl)) (names_of (by kernel_rfl))
theorem r7 (h : At1 g B w k5) : Calls Try.prog 13 #[.pointer (some ⟨g, 0, none⟩), .string ⟨#[97]⟩] w fun e w' => e = .returned (.tuple #[.string ⟨#[97, 98]⟩, .int .i64 0]) ∧ w' = w := by
  have := h.read sa (by decide)
  rw [e5] at this
  exact this
theorem r8 (h : At1 g B w k5) : Calls Try.prog 10 #[.pointer (some ⟨g, 0, none⟩), .string ⟨#[97]⟩, .string s99] w fun e w' => e = .returned (.int .i64 25) ∧ At1 g B w' k5 ∧ Below B w w' := by
  have := h.append fit5 sa s99 (by decide) (by decide)
  rw [e6, show (k5.app sa s99).2 = k5 from lay_25 e6] at this
  exact this
theorem r9 (h : At1 g B w k5) : Calls Try.prog 15 #[.pointer (some ⟨g, 0, none⟩), .int .i64 0] w fun e w' => e = .returned (.tuple #[]) ∧ At1 g B w' k6 ∧ Below B w w' :=
  h.limit 0
theorem r10 (h : At1 g B w k6) : Calls Try.prog 13 #[.pointer (some ⟨g, 0, none⟩), .string ⟨#[97]⟩] w fun e w' => e = .returned (.tuple #[.string ⟨#[]⟩, .int .i64 22]) ∧ w' = w := by
  have := h.read sa (by decide)
  rw [e7] at this
  exact this
theorem r11 (h : At1 g B w k6) : Calls Try.prog 16 #[.pointer (some ⟨g, 0, none⟩)] w fun e w' => e = .returned (.int .i64 3) ∧ w' = w := by
  have := h.steps
  rw [e8] at this
  exact this
end

theorem make99 (W : World) : (Instr.makeSlice 34 (.int .i64 99) (.int .i64 99)).run Try.prog W = .ok (.slice (some ⟨W.heap.size, 0, none⟩) 99 99) (W.alloc (.cells (Array.replicate 99 (.int .u8 0)) 5)) := by
  obtain ⟨i0, hi, hz0, hz1, hz2⟩ := info_parts (show (Try.prog.info? 5).map (fun i => (i.zero, i.size, i.bytes)) = some (some (.int .u8 0), 1, 1) by kernel_rfl)
  have h := run_make (P := Try.prog) W 34 5 i0 (.int .u8 0) Try.underlying34 hi hz0 .i64 .i64 99 99 (by decide) (by decide) (by rw [hz2]; decide) (by decide)
  rw [hz1] at h
  rw [h]
  have e : madeCells (Value.int .u8 0).cells ((99 : Int).toNat * 1) = Array.replicate 99 (.int .u8 0) := by kernel_rfl
  rw [e]
  rfl
theorem str99 (W : World) : (convert 34 9 (.slice (some ⟨W.heap.size, 0, none⟩) 99 99)).run Try.prog (W.alloc (.cells (Array.replicate 99 (.int .u8 0)) 5)) = .ok (.string s99) (W.alloc (.cells (Array.replicate 99 (.int .u8 0)) 5)) := by
  have h := run_convert_bytes_back (P := Try.prog) (W.alloc (.cells (Array.replicate 99 (.int .u8 0)) 5)) 34 9 5 ⟨W.heap.size, 0, none⟩ 99 (List.replicate 99 0) Try.underlying34 Try.underlying5 Try.underlying9 (by
    intro j hj
    have hj2 : j < 99 := by simpa using hj
    have ea : (⟨W.heap.size, 0, none⟩ : Addr).add j = ⟨W.heap.size, j, none⟩ := by simp [Addr.add]; omega
    rw [ea, cell_of (MapKept.heap_alloc W _).1]
    simp only [List.getElem_replicate]
    rw [Array.getElem?_replicate, if_pos hj2]
    rfl)
  rw [show (List.replicate 99 (0 : UInt8)).length = 99 from List.length_replicate] at h
  rw [h]
  rfl
set_option maxHeartbeats 2000000 in
theorem known_calls (w : World) : Calls Try.prog 8 #[] w fun e w' => e = .returned (.bool true) ∧ Below w.heap.size w w' := by
  have h0 := At1.new 100 w
  have hmk := make99
  have hcv := str99
  go_enter Try.func8, Try.ntmps8
  go_wp2_with (first
    | (go_at_call 9; with_reducible refine h0.mono ?_; rintro e w1 ⟨rfl, HD1, hB1⟩)
    | (go_at_call 10; with_reducible refine (r0 HD1).mono ?_; rintro e w2 ⟨rfl, HD2, hB2⟩)
    | (go_at_call 11; with_reducible refine (r1 HD2).mono ?_; rintro e w3 ⟨rfl, HD3, hB3⟩)
    | (go_at_call 12; with_reducible refine (r2 HD3).mono ?_; rintro e w4 ⟨rfl, HD4, hB4⟩)
    | (go_at_call 13; with_reducible refine (r3 HD4).mono ?_; rintro e w4' ⟨rfl, rfl⟩)
    | (go_at_call 11; with_reducible refine (r4 HD4).mono ?_; rintro e w5 ⟨rfl, HD5, hB5⟩)
    | (go_at_call 14; with_reducible refine (r5 HD5).mono ?_; rintro e w6 ⟨rfl, HD6, hB6⟩)
    | (go_at_call 12; with_reducible refine (r6 HD6).mono ?_; rintro e w7 ⟨rfl, HD7, hB7⟩)
    | (go_at_call 13; with_reducible refine (r7 HD7).mono ?_; rintro e w7' ⟨rfl, rfl⟩)
    | (go_at_call 10; with_reducible refine (r8 (HD7.alloc _)).mono ?_; rintro e w8 ⟨rfl, HD8, hB8⟩)
    | (go_at_call 15; with_reducible refine (r9 HD8).mono ?_; rintro e w9 ⟨rfl, HD9, hB9⟩)
    | (go_at_call 13; with_reducible refine (r10 HD9).mono ?_; rintro e w9' ⟨rfl, rfl⟩)
    | (go_at_call 16; with_reducible refine (r11 HD9).mono ?_; rintro e w9'' ⟨rfl, rfl⟩)
    | go_in)
  go_ret
  have c7 := (((((hB1.trans hB2).trans hB3).trans hB4).trans hB5).trans hB6).trans hB7
  exact ⟨rfl, ((c7.alloc c7.size _).trans hB8).trans hB9⟩

end Go.Proofs.Ytocaihmadififaa.Dk
