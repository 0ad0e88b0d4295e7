/- NumTells: num's functions answer as the document's, of every number, every text. For every input. -/
import Derived.Test.YtgedcomfbkgkoaaPrint5
import Derived.Test.YtgedcomfbkgkoaaNumC
import Derived.Test.YtgedcomfbkgkoaaNumD
import Derived.Test.YtgedcomfbkgkoaaNumE
namespace Go.Proofs.Ytgedcomfbkgkoaa.Pure
open Go.RowKit Go.Proofs.Ytgedcomfbkgkoaa.Print Go.Proofs.YtgedcomfbkgkoaaW.PrintWords Go.Proofs.YtgedcomfbkgkoaaW.PrintLast Go.Proofs.YtgedcomfbkgkoaaW.PrintMore Go.Proofs.Ytgedcomfbkgkoaa.Num

theorem NumTells : vedettelaw1_NumTells.Pure := by
  intro a z s most ha hz hs hm
  have ha := wf_u64 ha
  have hz := wf_i64 hz
  have hm := wf_i64 hm
  refine ⟨2 * s.size + 100, ?_⟩
  unfold vedettelaw1_NumTells.f
  rw [known_f _ (by omega)]
  simp only [Option.bind_some, if_true]
  by_cases hl : (s.size : Int) > 400
  · rw [if_pos hl]
  · rw [if_neg hl]
    obtain ⟨u, n, e, hd⟩ : ∃ u n e, dec s.data.toList 0 0 = (u, n, e) := ⟨_, _, _, rfl⟩
    have hr := dec0_range hd
    have hu : 0 ≤ u ∧ u < 18446744073709551616 := by omega
    have pa := put_f (2 * s.size + 100) a.toNat (by omega) (by omega)
    have qa := ref_put_f (2 * s.size + 100) a.toNat (by omega) (by omega)
    rw [show ((a.toNat : Nat) : Int) = a by omega] at pa qa
    have zr := zig_range z hz.1 hz.2
    have pz := int_f (2 * s.size + 100) z (by omega) hz.1 hz.2
    have qz : vedetteref1_Int.f (2 * s.size + 100) z = some (bstr (enc (zig z).toNat)) := by
      unfold vedetteref1_Int.f
      have h1 : vedetteref1_Zig.f z = some (zig z) := zig_f z hz.1 hz.2
      have h2 := ref_put_f (2 * s.size + 100) (zig z).toNat (by omega) (by omega)
      rw [show (((zig z).toNat : Nat) : Int) = zig z by omega] at h2
      rw [h1]
      simp only [Option.bind_some]
      rw [h2]
      rfl
    have z1 : num_Zig.f z = some (zig z) := zig_f z hz.1 hz.2
    have z2 : vedetteref1_Zig.f z = some (zig z) := zig_f z hz.1 hz.2
    have g1 : num_Zag.f a = some (zag a) := zag_f a ha.1 ha.2
    have g2 : vedetteref1_Zag.f a = some (zag a) := zag_f a ha.1 ha.2
    have i1 : num_Ints.f s = some (zag u, n, e) := by
      unfold num_Ints.f
      rw [get_f s (by omega), hd]
      simp only [Option.bind_some, zag_f u hu.1 hu.2]
    have i2 : vedetteref1_Ints.f (2 * s.size + 100) s = some (zag u, n, e) := by
      unfold vedetteref1_Ints.f
      have h1 : vedetteref1_Zag.f u = some (zag u) := zag_f u hu.1 hu.2
      rw [ref_get_f s _ (by omega), hd]
      simp only [Option.bind_some, h1]
    rw [get_f s (by omega), ref_get_f s _ (by omega), i1, i2, texts_f s most (by omega) hm.1 hm.2, ref_texts_f s most _ (by omega) (by omega) hm.1 hm.2, pa, qa, z1, z2, g1, g2, pz, qz, text_f _ s (by omega) (by omega), ref_text_f _ s (by omega) (by omega)]
    simp
end Go.Proofs.Ytgedcomfbkgkoaa.Pure
