/- SumTells: sum's functions answer as the document's, of every text, every frame. For every input. -/
import Derived.Test.YtikncpfppeiplaaPrint3
import Derived.Test.YtikncpfppeiplaaSumC
import Derived.Test.YtikncpfppeiplaaSumK
namespace Go.Proofs.Ytikncpfppeiplaa.Pure
open Go.RowKit Go.Proofs.Ytikncpfppeiplaa.Print Go.Proofs.YtikncpfppeiplaaW.PrintWords Go.Proofs.YtikncpfppeiplaaW.PrintLast Go.Proofs.Ytikncpfppeiplaa.Num

theorem SumTells : vedettelaw2_SumTells.Pure := by
  intro b s hb hs
  refine ⟨10000, ?_⟩
  unfold vedettelaw2_SumTells.f
  rw [sum_known_f 10000 (by omega)]
  simp only [Option.bind_some, if_true]
  have jt : vedettelaw2_SumTells.j0 10000 b s true = some true := by
    simp only [vedettelaw2_SumTells.j0]
    rw [if_pos trivial]
  by_cases h1 : (b.size : Int) > 500
  · rw [if_pos h1, jt]
  · rw [if_neg h1]
    by_cases h2 : (s.size : Int) > 500
    · rw [decide_eq_true h2, jt]
    · rw [decide_eq_false h2]
      have e : (10000 : Nat) = 9999 + 1 := rfl
      rw [e]
      simp only [vedettelaw2_SumTells.j0]
      rw [if_neg (by simp), open_f s (by omega), ref_open_f 9999 s (by omega) (by omega), of_f b (by omega), ref_of_f 9999 b (by omega) (by omega), wrap_f 9999 b (by omega) (by omega), ref_wrap_f 9999 b (by omega) (by omega)]
      simp
end Go.Proofs.Ytikncpfppeiplaa.Pure
