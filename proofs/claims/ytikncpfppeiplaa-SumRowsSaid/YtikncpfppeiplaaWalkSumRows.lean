/- What functions of the program compute, and that the code does so: written by a program of the session. -/
import Derived.Test.YtikncpfppeiplaaPrint0
import Derived.Test.YtikncpfppeiplaaPrint5
import Derived.Test.YtikncpfppeiplaaStrs
namespace Go.Proofs.Ytikncpfppeiplaa.Print
open Go.RowKit Go.Proofs.YtikncpfppeiplaaW.PrintWords Go.Proofs.YtikncpfppeiplaaW.PrintLast Go.Proofs.YtikncpfppeiplaaW.PrintMore
attribute [local go_sem] max2_int min2_int max_two min_two max_three min_three max_four min_four   -- for this text's walks alone
set_option linter.unusedVariables false
set_option linter.unusedSimpArgs false


/-- THE ONE PURE STATEMENT of vedettelaw2_SumRows: yours. -/
def vedettelaw2_SumRows.Pure : Prop := ∀ (l0 : List ByteArray) (a1 : ByteArray), l0.length ≤ maxLen → l0.length * 16 ≤ 140737488351232 → (∀ s ∈ l0, s.size ≤ maxLen) → a1.size ≤ 140737488351232 → ∃ k, vedettelaw2_SumRows.f k l0 a1 = some true
theorem vedettelaw2_SumRows.walk (P : vedettelaw2_SumRows.Pure) (a0 : Option Addr) (len0 cap0 : Nat) (z0 : List ByteArray) (a1 : ByteArray) (w : World) (w0 : (a0 = none ∧ len0 = 0 ∧ cap0 = 0 ∧ z0 = []) ∨ ∃ x, a0 = some x ∧ len0 ≤ cap0 ∧ cap0 ≤ maxLen ∧ z0.length = cap0 ∧ (∀ i, i < z0.length → w.cell? (x.add i) = some (.string (z0.getD i ByteArray.empty))) ∧ ∀ s ∈ z0, s.size ≤ maxLen) (y0 : len0 * 16 ≤ 140737488351232) (w1 : a1.size ≤ 140737488351232) :
    Calls Try.prog 6 #[.slice a0 len0 cap0, .string a1] w fun e w' => e = .returned (.bool true) ∧ Below w.heap.size w w' := by
  obtain ⟨l0, rfl, hr0, hm0, hw0, hc0⟩ := Mine.ofRowS w0
  obtain ⟨k, h⟩ := P l0 a1 hm0 y0 hw0 w1
  refine (vedettelaw2_SumRows.calls k _ _ l0 a1 w (Kd.C_of_reads (d := ByteArray.empty) (h1 := fun _ => rfl) hr0) hc0 h).mono ?_
  rintro e w' ⟨rfl, hd⟩
  exact ⟨rfl, hd⟩
end Go.Proofs.Ytikncpfppeiplaa.Print
