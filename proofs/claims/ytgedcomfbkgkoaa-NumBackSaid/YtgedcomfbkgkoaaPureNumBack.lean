/- NumBack: what was written is read, whatever stands behind it; a beginning of it isn't; texts likewise. For every input. -/
import Derived.Test.YtgedcomfbkgkoaaPrint5
import Derived.Test.YtgedcomfbkgkoaaNumD
import Derived.Test.YtgedcomfbkgkoaaNumE
namespace Go.Proofs.Ytgedcomfbkgkoaa.Pure
open Go.RowKit Go.Proofs.Ytgedcomfbkgkoaa.Print Go.Proofs.YtgedcomfbkgkoaaW.PrintWords Go.Proofs.YtgedcomfbkgkoaaW.PrintLast Go.Proofs.YtgedcomfbkgkoaaW.PrintMore Go.Proofs.Ytgedcomfbkgkoaa.Num

theorem bstr_append_right (l : List UInt8) (t : ByteArray) : bstr l ++ t = bstr (l ++ t.data.toList) := ba_ext (by rw [ba_append]; rfl)
theorem back_get (n : Nat) (t : ByteArray) (hn : n < 18446744073709551616) (ht : t.size ≤ 50) : num_Get.f (bstr (enc n) ++ t) = some ((n : Int), ((enc n).length : Int), 0) := by
  have hl := enc_length10 hn
  have hs := ba_size t
  rw [bstr_append_right, get_f _ (by rw [bstr_size, List.length_append]; omega), bstr_list, dec_enc0 n _ hn]
theorem back_cut (n j : Nat) (hn : n < 18446744073709551616) (hj : j < (enc n).length) : num_Get.f ((bstr (enc n)).extract 0 j) = some (0, 0, 10) := by
  have hl := enc_length10 hn
  have e : (bstr (enc n)).extract 0 j = bstr ((enc n).take j) := ba_ext (by rw [Lib.extract_data, bstr_list, bstr_list]; simp)
  rw [e, get_f _ (by rw [bstr_size, List.length_take]; omega), bstr_list, dec_cut n n 0 0 j (Nat.le_refl _) (.inl rfl) (by simpa using hn) (by simp) hj]
theorem bstr_self (s : ByteArray) : bstr s.data.toList = s := ba_ext rfl

/-- a text that is too large for what is asked -/
theorem texts_large (s tail : List UInt8) (most : Int) (h : s.length ≤ 140737488355328) (hm : mx most 0 < (s.length : Int)) :
    texts (bstr (enc s.length ++ s ++ tail)) most = (⟨#[]⟩, 0, 13) := by
  unfold texts
  have hd : dec (bstr (enc s.length ++ s ++ tail)).data.toList 0 0 = ((s.length : Int), ((enc s.length).length : Int), 0) := by
    rw [bstr_list, List.append_assoc]
    exact dec_enc0 s.length (s ++ tail) (by omega)
  rw [hd]
  dsimp only
  rw [if_pos rfl, if_pos (by omega)]

theorem back_j1 (k : Nat) (n z c : Int) (s t : ByteArray) (hk : 20 ≤ k) (hn : 0 ≤ n ∧ n < 18446744073709551616) (hz : -9223372036854775808 ≤ z ∧ z ≤ 9223372036854775807) (hc : 0 ≤ c ∧ c < 256) (hs : s.size ≤ 200) (ht : t.size ≤ 50) :
    vedettelaw1_NumBack.j1 k n z s t c (bstr (enc n.toNat)) false = some true := by
  obtain ⟨k, rfl⟩ : ∃ m, k = m + 1 := ⟨k - 1, by omega⟩
  have hl := enc_length10 (n := n.toNat) (by omega)
  have hp := enc_pos n.toNat
  have hls := enc_length10 (n := s.size) (by omega)
  have hss := ba_size s
  have hts := ba_size t
  have zr := zig_range z hz.1 hz.2
  have gr := zag_range n hn.1 hn.2
  have hzz := zag_zig z
  have hzg := zig_zag n hn.1
  have z1 := zig_f z hz.1 hz.2
  have g1 := zag_f n hn.1 hn.2
  have z2 := zag_f (zig z) zr.1 zr.2
  have g2 := zig_f (zag n) gr.1 gr.2
  have emod : Int.tmod (wrap64 c) ((bstr (enc n.toNat)).size : Int) = ((c.toNat % (enc n.toNat).length : Nat) : Int) := by
    rw [wrap64_of (by omega) (by omega), bstr_size, Int.tmod_eq_emod_of_nonneg hc.1]
    have : (c : Int) = ((c.toNat : Nat) : Int) := by omega
    rw [this]
    simp
  have hlt : c.toNat % (enc n.toNat).length < (enc n.toNat).length := Nat.mod_lt _ (by omega)
  have htext := text_f k s (by omega) (by omega)
  have hcut := back_cut n.toNat (c.toNat % (enc n.toNat).length) (by omega) hlt
  have eapp : bstr (enc s.size ++ s.data.toList) ++ t = bstr (enc s.data.toList.length ++ s.data.toList ++ t.data.toList) := by rw [bstr_append_right, hss]
  have etx := texts_f (bstr (enc s.data.toList.length ++ s.data.toList ++ t.data.toList)) ((s.size : Int) - 1) (by rw [bstr_size]; simp only [List.length_append]; rw [hss]; omega) (by omega) (by omega)
  have ew : wrap64 ((s.size : Int) - 1) = (s.size : Int) - 1 := wrap64_of (by omega) (by omega)
  generalize c.toNat % (enc n.toNat).length = q at *
  simp only [vedettelaw1_NumBack.j1]
  rw [if_neg (by simp), if_neg (by rw [bstr_size]; omega), emod, if_pos (by omega), if_pos (by rw [bstr_size]; omega), Int.toNat_natCast, hcut, htext]
  simp only [Option.bind_some]
  rw [if_pos (by rw [bstr_size, List.length_append]; omega), eapp, ew, etx]
  simp only [Option.bind_some, if_true]
  by_cases h0 : s.size = 0
  · have hnil : s.data.toList = [] := List.eq_nil_of_length_eq_zero (by omega)
    have hm : mx ((s.size : Int) - 1) 0 = 0 := by unfold mx; split <;> omega
    have := texts_text s.data.toList t.data.toList ((s.size : Int) - 1) (by omega) (by rw [hm]; omega)
    rw [this]
    dsimp only
    rw [if_neg (by decide), if_pos (by omega), z1]
    simp only [Option.bind_some, z2, hzz, if_true, g1, g2, hzg, beq_self_eq_true]
  · have hm : mx ((s.size : Int) - 1) 0 = (s.size : Int) - 1 := by unfold mx; split <;> omega
    have := texts_large s.data.toList t.data.toList ((s.size : Int) - 1) (by omega) (by rw [hm]; omega)
    rw [this]
    dsimp only
    rw [if_pos rfl, z1]
    simp only [Option.bind_some, z2, hzz, if_true, g1, g2, hzg, beq_self_eq_true]

theorem back_j0 (k : Nat) (n z c : Int) (s t : ByteArray) (hk : 21 ≤ k) (hn : 0 ≤ n ∧ n < 18446744073709551616) (hz : -9223372036854775808 ≤ z ∧ z ≤ 9223372036854775807) (hc : 0 ≤ c ∧ c < 256) (hs : s.size ≤ 200) (ht : t.size ≤ 50) :
    vedettelaw1_NumBack.j0 k n z s t c false = some true := by
  obtain ⟨k, rfl⟩ : ∃ m, k = m + 1 := ⟨k - 1, by omega⟩
  have hl := enc_length10 (n := n.toNat) (by omega)
  have hls := enc_length10 (n := s.size) (by omega)
  have hss := ba_size s
  have hts := ba_size t
  have zr := zig_range z hz.1 hz.2
  have hlz := enc_length10 (n := (zig z).toNat) (by omega)
  have hj1 := back_j1 k n z c s t (by omega) hn hz hc hs ht
  have hp := put_f k n.toNat (by omega) (by omega)
  rw [show ((n.toNat : Nat) : Int) = n by omega] at hp
  have hg := back_get n.toNat t (by omega) ht
  rw [show ((n.toNat : Nat) : Int) = n by omega] at hg
  have hi := int_f k z (by omega) hz.1 hz.2
  have hgi : num_Ints.f (bstr (enc (zig z).toNat) ++ t) = some (z, ((enc (zig z).toNat).length : Int), 0) := by
    unfold num_Ints.f
    have h1 := back_get (zig z).toNat t (by omega) ht
    rw [show (((zig z).toNat : Nat) : Int) = zig z by omega] at h1
    rw [h1]
    simp only [Option.bind_some, zag_f (zig z) zr.1 zr.2, zag_zig z]
  have htext := text_f k s (by omega) (by omega)
  have eapp : bstr (enc s.size ++ s.data.toList) ++ t = bstr (enc s.data.toList.length ++ s.data.toList ++ t.data.toList) := by rw [bstr_append_right, hss]
  have etx := texts_f (bstr (enc s.data.toList.length ++ s.data.toList ++ t.data.toList)) (s.size : Int) (by rw [bstr_size]; simp only [List.length_append]; rw [hss]; omega) (by omega) (by omega)
  have hm : mx (s.size : Int) 0 = (s.size : Int) := by unfold mx; split <;> omega
  rw [texts_text s.data.toList t.data.toList (s.size : Int) (by omega) (by rw [hm]; omega)] at etx
  have hq : (((bstr (enc n.toNat)).size : Int) == 0) = false := by
    have := enc_pos n.toNat
    rw [bstr_size]
    exact beq_eq_false_iff_ne.mpr (by omega)
  simp only [vedettelaw1_NumBack.j0]
  rw [if_neg (by simp), hp, hi, htext]
  simp only [Option.bind_some]
  rw [if_pos (by rw [bstr_size]; omega), hg]
  simp only [Option.bind_some]
  rw [if_pos (by rw [bstr_size]; omega), hgi]
  simp only [Option.bind_some]
  rw [if_pos (by rw [bstr_size, List.length_append]; omega), eapp, etx]
  simp only [Option.bind_some, if_true, bstr_self]
  rw [if_pos (by rw [bstr_size]), if_pos (by rw [bstr_size]), if_pos (by rw [bstr_size, List.length_append, hss]; omega), hq]
  exact hj1

theorem NumBack : vedettelaw1_NumBack.Pure := by
  intro n z s t c hn hz hs ht hc
  have hn := wf_u64 hn
  have hz := wf_i64 hz
  have hc := wf_u8 hc
  refine ⟨100, ?_⟩
  unfold vedettelaw1_NumBack.f
  rw [known_f 100 (by omega)]
  simp only [Option.bind_some, if_true]
  have jt : vedettelaw1_NumBack.j0 100 n z s t c true = some true := by
    simp only [vedettelaw1_NumBack.j0]
    rw [if_pos trivial]
  by_cases h1 : (s.size : Int) > 200
  · rw [if_pos h1, jt]
  · rw [if_neg h1]
    by_cases h2 : (t.size : Int) > 50
    · rw [decide_eq_true h2, jt]
    · rw [decide_eq_false h2]
      exact back_j0 100 n z c s t (by omega) hn hz hc (by omega) (by omega)
end Go.Proofs.Ytgedcomfbkgkoaa.Pure
