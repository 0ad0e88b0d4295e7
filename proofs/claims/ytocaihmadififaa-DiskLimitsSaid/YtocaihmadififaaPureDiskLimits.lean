/- What a disk holds behind so many appends of one byte: the plain law of DiskLimits. -/
import Derived.Test.YtocaihmadififaaWalkDiskLimits
namespace Go.Proofs.Ytocaihmadififaa.Pure
open Go.Proofs.Ytocaihmadififaa.Print Go.Proofs.Ytocaihmadififaa.Dk

theorem DiskLimits : vedettelaw20_DiskLimits.Pure := by
  intro k i
  induction i with
  | zero => intro _; exact ⟨rfl, rfl, rfl, rfl, by show (k : Int) = k - 0; omega, rfl, rfl, rfl⟩
  | succ i ih =>
    intro hi
    obtain ⟨h1, h2, h3, h4, h5, h6, h7, h8⟩ := ih (by omega)
    refine ⟨h1, h2, ?_, ?_, ?_, ?_, ?_, ?_⟩
    · show (lim k i).nn + 1 = _; omega
    · show (lim k i).steps + 1 = _; omega
    · show (if (lim k i).left > 0 then (lim k i).left - 1 else (lim k i).left) = _
      rw [if_pos (by omega)]; omega
    · show ((lim k i).l ++ [_]).length = _; rw [List.length_append, h6]; rfl
    · show sumS ((lim k i).l ++ [_]) = _; rw [sumS_append, h7]; rfl
    · show ((lim k i).cur ++ (⟨#[120]⟩ : ByteArray)).size = _; rw [ByteArray.size_append, h8]; rfl

end Go.Proofs.Ytocaihmadififaa.Pure
