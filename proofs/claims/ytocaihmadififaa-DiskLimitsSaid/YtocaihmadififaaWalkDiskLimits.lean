/- DiskLimits' walk: what the code of the statement does, told by what the disk's functions answer. -/
import Derived.Test.YtocaihmadififaaDiskI
import Derived.RegionTactic
import Derived.ChangeAlike
import Derived.BigRegion
namespace Go.Proofs.Ytocaihmadififaa.Print
open Go.RowKit Go.Maps Go.Proofs.YtocaihmadififaaW.PrintWords Go.Proofs.YtocaihmadififaaW.PrintLast Go.Proofs.YtocaihmadififaaW.PrintMore Go.Proofs.Ytocaihmadififaa.Dk
set_option linter.unusedVariables false
set_option linter.unusedSimpArgs false

/-- The disk behind so many appends of one byte, k let. -/
def lim (k : Nat) : Nat → S
  | 0 => ⟨none, none, 0, 0, [], 0, k⟩
  | i + 1 => (lim k i).wr ((lim k i).cur ++ ⟨#[120]⟩) (⟨#[120]⟩, false)
def Lim (k i : Nat) (s : S) : Prop := s.ko = none ∧ s.kn = 0 ∧ s.nn = i ∧ s.steps = i ∧ s.left = (k : Int) - i ∧ s.l.length = i ∧ sumS s.l = i ∧ s.cur.size = i
/-- What is to be shown of plain numbers and texts. -/
def vedettelaw20_DiskLimits.Pure : Prop := ∀ k i : Nat, i ≤ k → Lim k i (lim k i)

theorem main_limits (P : vedettelaw20_DiskLimits.Pure) (n keep : Int) (k : Nat) (hk20 : k < 20) (hn : wrap64 (n.tmod 20) = (k : Int)) (hk0 : 0 ≤ keep) (hk1 : keep ≤ 18446744073709551615) (w : World) :
    Calls Try.prog 6 #[.int .u8 n, .int .u64 keep] w fun e w' => e = .returned (.bool true) ∧ Below w.heap.size w w' := by
  have hk := known_calls w
  have HN := fun W => o_new 1000 (by decide) (by decide) W
  have LO : ∀ i, i ≤ k → (lim k i).Ok 1000 := by
    intro i hi
    obtain ⟨h1, h2, h3, h4, h5, h6, h7, h8⟩ := P k i hi
    exact ⟨by omega, by omega, by omega, by omega, by omega, by omega, by omega, by omega, by decide, by decide⟩
  obtain ⟨s0, e0⟩ : ∃ s, s = (⟨none, none, 0, 0, [], 0, -1⟩ : S) := ⟨_, rfl⟩
  have q0 : Does 1000 15 (fun g => #[.pointer (some ⟨g, 0, none⟩), .int .i64 (k : Int)]) (.tuple #[]) s0 (lim k 0) := by
    subst e0; exact o_limit (k : Int) (by omega) rfl
  have q1 : ∀ i, i < k → Does 1000 10 (fun g => #[.pointer (some ⟨g, 0, none⟩), .string ⟨#[102]⟩, .string ⟨#[120]⟩]) (.int .i64 0) (lim k i) (lim k (i + 1)) := by
    intro i hi
    obtain ⟨h1, h2, h3, h4, h5, h6, h7, h8⟩ := P k i (by omega)
    exact o_append (LO i (by omega)) ⟨#[120]⟩ (by decide) (by omega) (by rw [ByteArray.size_append, h8, show (ByteArray.mk #[120]).size = 1 from rfl]; omega) rfl
  obtain ⟨sk, ek⟩ : ∃ s, s = lim k k := ⟨_, rfl⟩
  obtain ⟨sc, ec⟩ : ∃ s, s = sk.cr keep := ⟨_, rfl⟩
  obtain ⟨sd, ed⟩ : ∃ s, s = sc.wr (sc.cur ++ ⟨#[121]⟩) (⟨#[121]⟩, false) := ⟨_, rfl⟩
  have hPk := P k k (Nat.le_refl k)
  have hLk := LO k (Nat.le_refl k)
  rw [← ek] at hPk hLk
  have q2 : Does 1000 10 (fun g => #[.pointer (some ⟨g, 0, none⟩), .string ⟨#[102]⟩, .string ⟨#[120]⟩]) (.int .i64 22) sk sk :=
    o_append_off hLk ⟨#[120]⟩ (by decide) (by obtain ⟨h1, h2, h3, h4, h5, h6, h7, h8⟩ := hPk; omega)
  have q3 : Tells 1000 13 (fun g => #[.pointer (some ⟨g, 0, none⟩), .string ⟨#[102]⟩]) (.tuple #[.string ByteArray.empty, .int .i64 22]) sk :=
    o_read_off (by obtain ⟨h1, h2, h3, h4, h5, h6, h7, h8⟩ := hPk; omega)
  have q4 : Does 1000 11 (fun g => #[.pointer (some ⟨g, 0, none⟩), .string ⟨#[102]⟩]) (.int .i64 22) sk sk :=
    o_sync_off hLk (by obtain ⟨h1, h2, h3, h4, h5, h6, h7, h8⟩ := hPk; omega)
  obtain ⟨h1, h2, h3, h4, h5, h6, h7, h8⟩ := hPk
  have q5 : Does 1000 12 (fun g => #[.pointer (some ⟨g, 0, none⟩), .int .u64 keep]) (.tuple #[]) sk sc :=
    o_crash hLk keep hk0 hk1 (by rw [h1, h7]; show 0 + k ≤ _; omega) ec.symm
  have hcz := play_size keep sk.l 0 sk.ko false
  rw [h1, h7] at hcz
  have hcur : sc.cur.size ≤ k := by
    rw [ec]
    show ((play keep 0 sk.ko false sk.l).getD ByteArray.empty).size ≤ k
    rw [h1]
    exact Nat.le_trans hcz (by show 0 + k ≤ k; omega)
  have hLc : sc.Ok 1000 := by
    refine ⟨?_, ?_, ?_, ?_, ?_, ?_, ?_, by omega, by decide, by decide⟩ <;> rw [ec]
    · show 0 ≤ sk.steps; omega
    · show sk.steps ≤ _; omega
    · show -1 ≤ -1; omega
    · show -1 ≤ 1000000; omega
    · show sk.kn + sk.l.length ≤ _; omega
    · show sk.kn + sk.l.length ≤ _; omega
    · show 0 ≤ _; omega
  have q6 : Does 1000 10 (fun g => #[.pointer (some ⟨g, 0, none⟩), .string ⟨#[102]⟩, .string ⟨#[121]⟩]) (.int .i64 0) sc sd :=
    o_append hLc ⟨#[121]⟩ (by decide) (by rw [ec]; show (-1 : Int) ≠ 0; decide) (by rw [ByteArray.size_append, show (ByteArray.mk #[121]).size = 1 from rfl]; omega) ed.symm
  have hsd : sd.steps = (k : Int) + 1 := by
    rw [ed]
    show sc.steps + 1 = _
    rw [ec]
    show sk.steps + 1 = _
    omega
  have q7 : Tells 1000 16 (fun g => #[.pointer (some ⟨g, 0, none⟩)]) (.int .i64 ((k : Int) + 1)) sd := by
    rw [← hsd]; exact o_steps
  rw [← e0] at HN
  obtain ⟨J, hJ⟩ : ∃ J : Nat → S, ∀ i, Aside0 (J i = lim k (min i k)) := ⟨fun i => lim k (min i k), fun i => ⟨rfl⟩⟩
  have hJ0 : J 0 = lim k 0 := by rw [(hJ 0).out, Nat.zero_min]
  rw [← hJ0] at q0
  have hJe : J 22 = sk := by rw [(hJ 22).out, ek, Nat.min_eq_right (by omega)]
  have qa : ∀ i, i < k → Does 1000 10 (fun g => #[.pointer (some ⟨g, 0, none⟩), .string ⟨#[102]⟩, .string ⟨#[120]⟩]) (.int .i64 0) (J i) (J (i + 1)) := by
    intro i hi
    rw [(hJ i).out, (hJ (i + 1)).out, Nat.min_eq_left (by omega), Nat.min_eq_left (by omega)]
    exact q1 i hi
  have qb : ∀ i, ¬ i < k → Does 1000 10 (fun g => #[.pointer (some ⟨g, 0, none⟩), .string ⟨#[102]⟩, .string ⟨#[120]⟩]) (.int .i64 22) (J i) (J (i + 1)) := by
    intro i hi
    rw [(hJ i).out, (hJ (i + 1)).out, Nat.min_eq_right (by omega), Nat.min_eq_right (by omega), ← ek]
    exact q2
  clear hJ0 q1 q2 LO hLk hLc hcz hcur h1 h2 h3 h4 h5 h6 h7 h8 ed ec ek e0 hsd
  have hj : Aside0 (J 22 = sk) := ⟨hJe⟩
  clear hJ hJe
  have k22 : decide ((k : Int) < 22) = true := decide_eq_true (by omega)
  have wk : wrap64 ((k : Int) + 1) = (k : Int) + 1 := by unfold wrap64; omega
  go_enter Try.func6, Try.ntmps6
  go_wp2_with (first
    | (go_at_call 8; with_reducible refine hk.mono ?_; rintro e w1 ⟨rfl, hb1⟩)
    | (go_at_call 9; with_reducible refine (HN w1).mono ?_; rintro e w2 ⟨rfl, HD2, hb2⟩)
    | (go_at_call 15; with_reducible refine (q0 _ _ _ HD2).mono ?_; rintro e w3 ⟨rfl, HD3, hb3⟩))
  have HB3 := Mine.step_below hb1 (hb2.trans hb3)
  go_loopw [7] (fun v7 wr => ∃ j : Nat, j ≤ 22 ∧ v7 = .int .i64 (j : Int) ∧ At1 (w1.heap.size + 2) w1.heap.size wr ((J j).d 1000) ∧ Below w.heap.size w wr)
    (fun v7 _ => 22 - (intOf v7).toNat)
  case atStart => exact ⟨0, by omega, rfl, HD3, HB3⟩
  case round =>
    obtain ⟨j, hj22, rfl, HDj, HBj⟩ := hrel
    by_cases hlt : j < 22
    · have hltz : decide ((j : Int) < 22) = true := decide_eq_true (by omega)
      by_cases hjk : j < k
      · have hjkz : decide ((j : Int) < (k : Int)) = true := decide_eq_true (by omega)
        have Q := qa j hjk
        clear qa qb
        go_wp2_with (first
          | (go_at_call 10; with_reducible refine (Q _ _ _ HDj).mono ?_; rintro e w4 ⟨rfl, HD4, hb4⟩))
        exact ⟨⟨j + 1, by omega, by simp, HD4, HBj.trans (hb4.mono hb1.size)⟩, by simp [intOf]; omega⟩
      · have hjkz : decide ((j : Int) < (k : Int)) = false := decide_eq_false (by omega)
        have Q := qb j hjk
        clear qa qb
        go_wp2_with (first
          | (go_at_call 10; with_reducible refine (Q _ _ _ HDj).mono ?_; rintro e w4 ⟨rfl, HD4, hb4⟩))
        exact ⟨⟨j + 1, by omega, by simp, HD4, HBj.trans (hb4.mono hb1.size)⟩, by simp [intOf]; omega⟩
    · obtain rfl : j = 22 := by omega
      rw [hj.out] at HDj
      have hs1 := hb1.size
      clear qa qb
      go_wp2_with (first
        | (go_at_call 13; with_reducible refine (q3 _ _ _ HDj).mono ?_; rintro e w4 ⟨rfl, rfl⟩)
        | (go_at_call 11; with_reducible refine (q4 _ _ _ HDj).mono ?_; rintro e w5 ⟨rfl, HD5, hb5⟩)
        | (go_at_call 12; with_reducible refine (q5 _ _ _ HD5).mono ?_; rintro e w6 ⟨rfl, HD6, hb6⟩)
        | (go_at_call 10; with_reducible refine (q6 _ _ _ HD6).mono ?_; rintro e w7 ⟨rfl, HD7, hb7⟩)
        | (go_at_call 16; with_reducible refine (q7 _ _ _ HD7).mono ?_; rintro e w8 ⟨rfl, rfl⟩))
      go_ret
      exact ⟨by simp, HBj.trans (((hb5.trans hb6).trans hb7).mono hs1)⟩

theorem vedettelaw20_DiskLimits.walk (P : vedettelaw20_DiskLimits.Pure) (a0 a1 : Int) (w : World) (w0 : (Lit.int .u8 a0).wf = true) (w1 : (Lit.int .u64 a1).wf = true) :
    Calls Try.prog 6 #[.int .u8 a0, .int .u64 a1] w fun e w' => e = .returned (.bool true) ∧ Below w.heap.size w w' := by
  have b1 : 0 ≤ a0 ∧ a0 < 256 := by simp [Lit.wf, IntKind.min, IntKind.max, IntKind.bits, IntKind.signed] at w0; omega
  have b2 : 0 ≤ a1 ∧ a1 ≤ 18446744073709551615 := by simp [Lit.wf, IntKind.min, IntKind.max, IntKind.bits, IntKind.signed] at w1; omega
  obtain ⟨k, hk⟩ : ∃ k : Nat, a0 % 20 = (k : Int) := ⟨(a0 % 20).toNat, by omega⟩
  exact main_limits P a0 a1 k (by omega) (by rw [Int.tmod_eq_emod_of_nonneg b1.1, hk]; unfold wrap64; omega) b2.1 b2.2 w

end Go.Proofs.Ytocaihmadififaa.Print
