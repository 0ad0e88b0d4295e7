/- Of the appends that wait each stays whose bit is set, up to the first one whose isn't: the plain law of DiskBits. -/
import Derived.Test.YtocaihmadififaaWalkDiskBits
namespace Go.Proofs.Ytocaihmadififaa.Pure
open Go.Proofs.Ytocaihmadififaa.Print Go.Proofs.Ytocaihmadififaa.Dk

theorem DiskBits : vedettelaw20_DiskBits.Pure := by
  intro keep m k f hm hk hf h1 h2
  have hn : pats m k ≠ [] := fun e => by have := pats_len m k; rw [e] at this; simp at this; omega
  rw [play_first keep m hm (pats m k) 0 f none hn (pats_size m k) (by rw [pats_len]; exact hf) (fun j hj => by rw [Nat.zero_add]; exact h1 j hj) (fun h => by rw [Nat.zero_add]; exact h2 (by rwa [pats_len] at h))]
  simp only [Option.getD_none, ByteArray.empty_append]
  congr 1
  split
  · rename_i h
    exact (first_extract (pats_size m k) (by rw [pats_len]; exact h)).symm
  · rename_i h
    unfold first
    rw [dif_neg (by rw [pats_len]; exact h)]

end Go.Proofs.Ytocaihmadififaa.Pure
