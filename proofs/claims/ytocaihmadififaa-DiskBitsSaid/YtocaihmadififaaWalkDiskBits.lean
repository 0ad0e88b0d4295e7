/- DiskBits' walk: what the code of the statement does, told by what the disk's functions answer. -/
import Derived.Test.YtocaihmadififaaDiskK
import Derived.RegionTactic
import Derived.ChangeAlike
import Derived.BigRegion
namespace Go.Proofs.Ytocaihmadififaa.Print
open Go.RowKit Go.Maps Go.Proofs.YtocaihmadififaaW.PrintWords Go.Proofs.YtocaihmadififaaW.PrintLast Go.Proofs.YtocaihmadififaaW.PrintMore Go.Proofs.Ytocaihmadififaa.Dk
set_option linter.unusedVariables false
set_option linter.unusedSimpArgs false

/-- What is to be shown of plain numbers and texts. -/
def vedettelaw20_DiskBits.Pure : Prop := ∀ (keep : Int) (m k f : Nat), 2 ≤ m → 0 < k → f ≤ k → (∀ j, j < f → bitOf keep j = true) → (f < k → bitOf keep f = false) →
  play keep 0 none false ((pats m k).map (·, false)) = some (if f < k then (cat (pats m k)).extract 0 (f * m + m / 2) else cat (pats m k))

theorem one_byte (W : World) (c : Int) (h0 : 0 ≤ c) (h1 : c < 256) : (convert 34 9 (.slice (some ⟨W.heap.size, 0, none⟩) 1 1)).run Try.prog (W.alloc (.cells #[.int .u8 c] 5)) = .ok (.string ⟨#[UInt8.ofNat c.toNat]⟩) (W.alloc (.cells #[.int .u8 c] 5)) := by
  have h := run_convert_bytes_back (P := Try.prog) (W.alloc (.cells #[.int .u8 c] 5)) 34 9 5 ⟨W.heap.size, 0, none⟩ 1 [UInt8.ofNat c.toNat] Try.underlying34 Try.underlying5 Try.underlying9 (by
    intro j hj
    obtain rfl : j = 0 := by simpa using hj
    have ea : (⟨W.heap.size, 0, none⟩ : Addr).add 0 = ⟨W.heap.size, 0, none⟩ := by simp [Addr.add]
    rw [ea, cell_of (MapKept.heap_alloc W _).1]
    simp; omega)
  rw [show ([UInt8.ofNat c.toNat] : List UInt8).length = 1 from rfl] at h
  rw [h]

theorem off_eq (f m mm c : Nat) (h1 : m ≤ mm + 2) (h2 : mm + 2 ≤ m) (hb : f * m + m ≤ 40 * 21) (hc : c = f * m + m / 2) : wrap64 (wrap64 ((f : Int) * ((mm : Int) + 2)) + ((mm : Int) + 2) / 2) = (c : Int) := by
  have e : ((mm : Int) + 2) = (m : Int) := by omega
  rw [e, ← Int.natCast_mul]
  revert hb hc
  generalize f * m = q
  intro hb hc
  have e1 : wrap64 (q : Int) = (q : Int) := by unfold wrap64; omega
  rw [e1]
  unfold wrap64
  omega

theorem main_bits (P : vedettelaw20_DiskBits.Pure) (n size keep : Int) (k m : Nat) (hk1 : 1 ≤ k) (hk2 : k ≤ 40) (hm1 : 2 ≤ m) (hm2 : m ≤ 21) (kk mm : Nat) (hk3 : k ≤ kk + 1) (hk4 : kk + 1 ≤ k) (hm3 : m ≤ mm + 2) (hm4 : mm + 2 ≤ m) (hn : wrap64 (n.tmod 40) = (kk : Int)) (hs : wrap64 (size.tmod 20) = (mm : Int))
    (hk0 : 0 ≤ keep) (hkm : keep ≤ 18446744073709551615) (w : World) :
    Calls Try.prog 4 #[.int .u8 n, .int .u64 keep, .int .u8 size] w fun e w' => e = .returned (.bool true) ∧ Below w.heap.size w w' := by
  have hk := known_calls w
  have HN := fun W => o_new 100000 (by decide) (by decide) W
  obtain ⟨s0, e0⟩ : ∃ s, s = (⟨none, none, 0, 0, [], 0, -1⟩ : S) := ⟨_, rfl⟩
  have q1 : ∀ i (hi : i < k), Does 100000 10 (fun g => #[.pointer (some ⟨g, 0, none⟩), .string ⟨#[102]⟩, .string (pat i m)]) (.int .i64 0) (gat s0 ((pats m k).take i)) (gat s0 ((pats m k).take (i + 1))) := by
    intro i hi
    have := gat_step (s := s0) (by rw [e0]) (pats m k) i (by rw [pats_len]; exact hi) (by rw [pats_len]; omega) (fun j hj _ => by rw [pats_at, pat_size]; omega) (by rw [e0]; decide)
    rwa [pats_at] at this
  rw [← e0] at HN
  go_enter Try.func4, Try.ntmps4
  go_wp2_with (first
    | (go_at_call 8; with_reducible refine hk.mono ?_; rintro e w1 ⟨rfl, hb1⟩)
    | (go_at_call 9; with_reducible refine (HN w1).mono ?_; rintro e w2 ⟨rfl, HD2, hb2⟩))
  have HB2 := Mine.step_below hb1 hb2
  have hs1 := hb1.size
  go_loopw [10, 11] (fun v10 v11 wr => ∃ i : Nat, i ≤ k ∧ v11 = .int .i64 (i : Int) ∧ v10 = .string (cat ((pats m k).take i)) ∧ At1 (w1.heap.size + 2) w1.heap.size wr ((gat s0 ((pats m k).take i)).d 100000) ∧ Below w.heap.size w wr)
    (fun _ v11 _ => k - (intOf v11).toNat)
  case atStart => exact ⟨0, by omega, rfl, rfl, HD2, HB2⟩
  case round =>
    obtain ⟨i, hi, rfl, rfl, HDi, HBi⟩ := hrel
    by_cases hlt : i < k
    · have hltz : decide ((i : Int) < (kk : Int) + 1) = true := decide_eq_true (by omega)
      have Q := q1 i hlt
      clear q1
      have ct2 : cat ((pats m k).take i) ++ pat i m = cat ((pats m k).take (i + 1)) := by
        have := cat_take (l := pats m k) (j := i) (by rw [pats_len]; exact hlt)
        rwa [pats_at] at this
      have csz2 : (cat ((pats m k).take i)).size + (pat i m).size ≤ 9223372036854775807 := by
        have := cat_le 21 ((pats m k).take i) (fun b hb => by rw [pats_size m k b (List.mem_of_mem_take hb)]; exact hm2)
        rw [List.length_take, pats_len] at this
        rw [pat_size]
        omega
      go_wp2
      go_loopw [12, 13] (fun v12 v13 wr => ∃ j : Nat, j ≤ m ∧ v13 = .int .i64 (j : Int) ∧ v12 = .string (pat i j) ∧ At1 (w1.heap.size + 2) w1.heap.size wr ((gat s0 ((pats m k).take i)).d 100000) ∧ Below w.heap.size w wr)
        (fun _ v13 _ => m - (intOf v13).toNat)
      case atStart => exact ⟨0, by omega, rfl, rfl, HDi, HBi⟩
      case round =>
        obtain ⟨j, hj, rfl, rfl, HDj, HBj⟩ := hrel
        by_cases hlj : j < m
        · have hljz : decide ((j : Int) < (mm : Int) + 2) = true := decide_eq_true (by omega)
          have hcv : (convert 34 9 (.slice (some ⟨wr.heap.size, 0, none⟩) 1 1)).run Try.prog (wr.alloc (.cells #[.int .u8 (97 + ((i : Int) + (j : Int)) % 26)] 5)) = .ok (.string ⟨#[chn (i + j)]⟩) (wr.alloc (.cells #[.int .u8 (97 + ((i : Int) + (j : Int)) % 26)] 5)) := by
            rw [one_byte wr _ (by omega) (by omega)]
            unfold chn
            congr 5
          have ct := pat_next i j
          have csz : (pat i j).size ≤ 21 := by rw [pat_size]; omega
          have hs2 := HBj.size
          have fin : ∀ o, At1 (w1.heap.size + 2) w1.heap.size (wr.alloc o) ((gat s0 ((pats m k).take i)).d 100000) ∧ Below w.heap.size w (wr.alloc o) := fun o => ⟨HDj.alloc o, HBj.alloc hs2 o⟩
          go_wp2
          exact ⟨⟨j + 1, by omega, by simp, rfl, fin _⟩, by simp [intOf]; omega⟩
        · obtain rfl : j = m := by omega
          have hljz : decide ((j : Int) < (mm : Int) + 2) = false := decide_eq_false (by omega)
          go_wp2_with (first
            | (go_at_call 10; with_reducible refine (Q _ _ _ HDj).mono ?_; rintro e w4 ⟨rfl, HD4, hb4⟩))
          exact ⟨⟨i + 1, by omega, by simp, rfl, HD4, HBj.trans (hb4.mono hs1)⟩, by simp [intOf]; omega⟩
    · have hik : i = k := by omega
      have hltz : decide ((i : Int) < (kk : Int) + 1) = false := decide_eq_false (by omega)
      obtain ⟨all, ea⟩ : ∃ s, s = cat (pats m k) := ⟨_, rfl⟩
      have ea2 : cat ((pats m k).take i) = all := by rw [ea, hik, List.take_of_length_le (by rw [pats_len]; exact Nat.le_refl _)]
      obtain ⟨t3, e3⟩ : ∃ s, s = gat s0 (pats m k) := ⟨_, rfl⟩
      have ea3 : gat s0 ((pats m k).take i) = t3 := by rw [e3, hik, List.take_of_length_le (by rw [pats_len]; exact Nat.le_refl _)]
      rw [ea3] at HDi
      rw [ea2]
      obtain ⟨t4, e4⟩ : ∃ s, s = t3.cr keep := ⟨_, rfl⟩
      have G3 := gat_of (pats m k) (s := s0) (by rw [e0])
      rw [← e3] at G3
      have hsz : all.size = k * m := by rw [ea, cat_size (m := m) _ (pats_size m k), pats_len]
      have hkm2 : k * m ≤ 40 * 21 := Nat.mul_le_mul hk2 hm2
      obtain ⟨h1, h2, h3, h4, h5, h6, h7, h8⟩ := G3
      rw [pats_len] at h3 h4
      have hl6 : t3.l.length = s0.l.length + k := by rw [h6, List.length_append, List.length_map, pats_len]
      rw [e0] at h1 h2 h3 h4 h5 h6 h7 hl6
      simp only [List.nil_append, List.length_nil, Nat.zero_add] at h1 h2 h3 h4 h5 h6 hl6
      have hcu : t3.cur.size ≤ 840 := by
        rw [h7, ByteArray.size_append, ← ea, hsz]
        show 0 + k * m ≤ _
        omega
      have QC : Does 100000 12 (fun g => #[.pointer (some ⟨g, 0, none⟩), .int .u64 keep]) (.tuple #[]) t3 t4 :=
        o_crash ⟨by omega, by omega, by omega, by omega, by omega, by omega, by omega, by omega, by decide, by decide⟩ keep hk0 hkm (by rw [h1, h6, sumS_map, ← ea, hsz]; show 0 + k * m ≤ _; omega) e4.symm
      have hno : t4.no = play keep 0 none false ((pats m k).map (·, false)) := by
        rw [e4]; show play keep 0 t3.ko false t3.l = _; rw [h1, h6]
      have h4l : t4.left ≠ 0 := by rw [e4]; show (-1 : Int) ≠ 0; decide
      have HP : ∀ f, f ≤ k → Aside0 (∀ j, j < f → bitOf keep j = true) → (f < k → bitOf keep f = false) →
          Tells 100000 13 (fun g => #[.pointer (some ⟨g, 0, none⟩), .string ⟨#[102]⟩]) (.tuple #[.string (if f < k then all.extract 0 (f * m + m / 2) else all), .int .i64 0]) t4 := by
        intro f hf ha hb
        refine o_read h4l ?_
        rw [hno, ea]
        exact P keep m k f hm1 (by omega) hf ha.out hb
      have HE := Aside0.mk hsz
      clear h1 h2 h3 h4 h5 h6 h7 h8 hl6 hcu hno e4 e3 ea ea2 ea3 q1 e0 hsz
      go_wp2
      go_loopw [14] (fun v14 wq => ∃ f : Nat, f ≤ k ∧ v14 = .int .i64 (f : Int) ∧ wq = wr ∧ Aside0 (∀ j, j < f → bitOf keep j = true))
        (fun v14 _ => k - (intOf v14).toNat)
      case atStart => exact ⟨0, by omega, rfl, rfl, ⟨fun j h => by omega⟩⟩
      case round =>
        obtain ⟨f, hf, rfl, rfl, HA⟩ := hrel
        by_cases hlf : f < k
        · have hlfz : decide ((f : Int) < (kk : Int) + 1) = true := decide_eq_true (by omega)
          have hbe : bitOf keep f = (Go.bits .and .u64 (keep / 2 ^ f) 1 == 1) := by
            unfold bitOf
            rw [decide_eq_true (by omega), Bool.true_and]
          cases hbv : (Go.bits .and .u64 (keep / 2 ^ f) 1 == 1) with
          | true =>
            rw [hbv] at hbe
            have HA2 : Aside0 (∀ j, j < f + 1 → bitOf keep j = true) := ⟨fun j hj => by
              rcases Nat.lt_or_ge j f with h | h
              · exact HA.out j h
              · obtain rfl : j = f := by omega
                exact hbe⟩
            clear HA hbe HP
            go_wp2
            exact ⟨⟨f + 1, by omega, by simp, trivial, HA2⟩, by simp [intOf]; omega⟩
          | false =>
            rw [hbv] at hbe
            have QR := HP f hf HA (fun _ => hbe)
            rw [if_pos hlf] at QR
            clear HP HA hbe
            have hfm : f * m + m ≤ k * m := by
              have : (f + 1) * m ≤ k * m := Nat.mul_le_mul_right m (by omega)
              rwa [Nat.add_mul, Nat.one_mul] at this
            have hle : f * m + m / 2 ≤ all.size := by rw [HE.out]; omega
            obtain ⟨c, hc0⟩ : ∃ x, x = f * m + m / 2 := ⟨_, rfl⟩
            have hE : wrap64 (wrap64 ((f : Int) * ((mm : Int) + 2)) + ((mm : Int) + 2) / 2) = (c : Int) := off_eq f m mm c hm3 hm4 (Nat.le_trans hfm hkm2) hc0
            rw [← hc0] at hle QR
            have hcz : c ≤ 1000 := Nat.le_trans (Nat.le_trans hle (Nat.le_of_eq HE.out)) (Nat.le_trans hkm2 (by decide))
            clear hc0 hfm hkm2 HE
            go_wp2_with (first
              | (go_at_call 12; with_reducible refine (QC _ _ _ HDi).mono ?_; rintro e w5 ⟨rfl, HD5, hb5⟩)
              | (go_at_call 13; with_reducible refine (QR _ _ _ HD5).mono ?_; rintro e w6 ⟨rfl, rfl⟩))
            go_ret
            exact ⟨by simp, HBi.trans (hb5.mono hs1)⟩
        · have hlfz : decide ((f : Int) < (kk : Int) + 1) = false := decide_eq_false (by omega)
          have QR := HP f hf HA (fun h => absurd h hlf)
          rw [if_neg hlf] at QR
          clear HP HA
          go_wp2_with (first
            | (go_at_call 12; with_reducible refine (QC _ _ _ HDi).mono ?_; rintro e w5 ⟨rfl, HD5, hb5⟩)
            | (go_at_call 13; with_reducible refine (QR _ _ _ HD5).mono ?_; rintro e w6 ⟨rfl, rfl⟩))
          go_ret
          exact ⟨by simp, HBi.trans (hb5.mono hs1)⟩

theorem vedettelaw20_DiskBits.walk (P : vedettelaw20_DiskBits.Pure) (a0 a1 a2 : Int) (w : World) (w0 : (Lit.int .u8 a0).wf = true) (w1 : (Lit.int .u64 a1).wf = true) (w2 : (Lit.int .u8 a2).wf = true) :
    Calls Try.prog 4 #[.int .u8 a0, .int .u64 a1, .int .u8 a2] w fun e w' => e = .returned (.bool true) ∧ Below w.heap.size w w' := by
  have b0 : 0 ≤ a0 ∧ a0 < 256 := by simp [Lit.wf, IntKind.min, IntKind.max, IntKind.bits, IntKind.signed] at w0; omega
  have b1 : 0 ≤ a1 ∧ a1 ≤ 18446744073709551615 := by simp [Lit.wf, IntKind.min, IntKind.max, IntKind.bits, IntKind.signed] at w1; omega
  have b2 : 0 ≤ a2 ∧ a2 < 256 := by simp [Lit.wf, IntKind.min, IntKind.max, IntKind.bits, IntKind.signed] at w2; omega
  obtain ⟨kk, hk⟩ : ∃ k : Nat, a0 % 40 = (k : Int) := ⟨(a0 % 40).toNat, by omega⟩
  obtain ⟨mm, hm⟩ : ∃ k : Nat, a2 % 20 = (k : Int) := ⟨(a2 % 20).toNat, by omega⟩
  exact main_bits P a0 a2 a1 (kk + 1) (mm + 2) (by omega) (by omega) (by omega) (by omega) kk mm (Nat.le_refl _) (Nat.le_refl _) (Nat.le_refl _) (Nat.le_refl _)
    (by rw [Int.tmod_eq_emod_of_nonneg b0.1, hk]; unfold wrap64; omega) (by rw [Int.tmod_eq_emod_of_nonneg b2.1, hm]; unfold wrap64; omega) b1.1 b1.2 w

end Go.Proofs.Ytocaihmadififaa.Print
