/- DiskPuts' walk: what the code of the statement does, told by what the disk's functions answer. -/
import Derived.Test.YtocaihmadififaaDiskI
import Derived.RegionTactic
import Derived.ChangeAlike
import Derived.BigRegion
namespace Go.Proofs.Ytocaihmadififaa.Print
open Go.RowKit Go.Maps Go.Proofs.YtocaihmadififaaW.PrintWords Go.Proofs.YtocaihmadififaaW.PrintLast Go.Proofs.YtocaihmadififaaW.PrintMore Go.Proofs.Ytocaihmadififaa.Dk
set_option linter.unusedVariables false
set_option linter.unusedSimpArgs false

/-- What is to be shown of plain numbers and texts. -/
def vedettelaw20_DiskPuts.Pure : Prop := ∀ (a b : ByteArray) (keep : Int), play keep 0 (some a) false [(b, true)] = some (if bitOf keep 0 then b else a)

theorem early_puts (a b : ByteArray) (keep : Int) (synced : Bool) (h : 200 < a.size ∨ 200 < b.size) (w : World) :
    Calls Try.prog 5 #[.string a, .string b, .int .u64 keep, .bool synced] w fun e w' => e = .returned (.bool true) ∧ Below w.heap.size w w' := by
  have hk := known_calls w
  by_cases ha : 200 < a.size
  · have h1 : decide (200 < (a.size : Int)) = true := decide_eq_true (by omega)
    go_enter Try.func5, Try.ntmps5
    go_wp2_with (go_at_call 8; with_reducible refine hk.mono ?_; rintro e w1 ⟨rfl, hb⟩)
    go_ret
    exact ⟨rfl, hb⟩
  · have h1 : decide (200 < (a.size : Int)) = false := decide_eq_false (by omega)
    have h2 : decide (200 < (b.size : Int)) = true := decide_eq_true (by omega)
    go_enter Try.func5, Try.ntmps5
    go_wp2_with (go_at_call 8; with_reducible refine hk.mono ?_; rintro e w1 ⟨rfl, hb⟩)
    go_ret
    exact ⟨rfl, hb⟩

theorem main_puts (P : vedettelaw20_DiskPuts.Pure) (a b : ByteArray) (keep : Int) (synced : Bool) (ha : a.size ≤ 200) (hb : b.size ≤ 200) (hk0 : 0 ≤ keep) (hk1 : keep ≤ 18446744073709551615) (w : World) :
    Calls Try.prog 5 #[.string a, .string b, .int .u64 keep, .bool synced] w fun e w' => e = .returned (.bool true) ∧ Below w.heap.size w w' := by
  have hk := known_calls w
  have h1 : decide (200 < (a.size : Int)) = false := decide_eq_false (by omega)
  have h2 : decide (200 < (b.size : Int)) = false := decide_eq_false (by omega)
  have HN := fun W => o_new 1000 (by decide) (by decide) W
  obtain ⟨s1, e1⟩ : ∃ s, s = (⟨none, none, 0, 0, [], 0, -1⟩ : S) := ⟨_, rfl⟩
  obtain ⟨s2, e2⟩ : ∃ s, s = (⟨none, some a, 0, 1, [(a, true)], 1, -1⟩ : S) := ⟨_, rfl⟩
  obtain ⟨s3, e3⟩ : ∃ s, s = (⟨some a, some a, 1, 1, [], 2, -1⟩ : S) := ⟨_, rfl⟩
  obtain ⟨s4, e4⟩ : ∃ s, s = (⟨some a, some b, 1, 2, [(b, true)], 3, -1⟩ : S) := ⟨_, rfl⟩
  obtain ⟨s5, e5⟩ : ∃ s, s = (⟨some b, some b, 2, 2, [], 4, -1⟩ : S) := ⟨_, rfl⟩
  obtain ⟨s6, e6⟩ : ∃ s, s = s5.cr keep := ⟨_, rfl⟩
  obtain ⟨s7, e7⟩ : ∃ s, s = s4.cr keep := ⟨_, rfl⟩
  have q1 : Does 1000 14 (fun g => #[.pointer (some ⟨g, 0, none⟩), .string ⟨#[102]⟩, .string a]) (.int .i64 0) s1 s2 := by
    subst e1 e2; exact o_put (S.ok (by simp)) a (by omega) (by simp) (by omega) rfl
  have q2 : Does 1000 11 (fun g => #[.pointer (some ⟨g, 0, none⟩), .string ⟨#[102]⟩]) (.int .i64 0) s2 s3 := by
    subst e2 e3; exact o_sync (S.ok (by simp; omega)) (by simp) rfl rfl
  have q3 : Does 1000 14 (fun g => #[.pointer (some ⟨g, 0, none⟩), .string ⟨#[102]⟩, .string b]) (.int .i64 0) s3 s4 := by
    subst e3 e4; exact o_put (S.ok (by simp; omega)) b (by omega) (by simp) (by omega) rfl
  have q4 : Does 1000 11 (fun g => #[.pointer (some ⟨g, 0, none⟩), .string ⟨#[102]⟩]) (.int .i64 0) s4 s5 := by
    subst e4 e5; exact o_sync (S.ok (by simp; omega)) (by simp) rfl rfl
  have q5 : Does 1000 12 (fun g => #[.pointer (some ⟨g, 0, none⟩), .int .u64 keep]) (.tuple #[]) s5 s6 := by
    subst e6 e5; exact o_crash (S.ok (by simp; omega)) keep hk0 hk1 (by simp [sumS]; omega) rfl
  have q6 : Does 1000 12 (fun g => #[.pointer (some ⟨g, 0, none⟩), .int .u64 keep]) (.tuple #[]) s4 s7 := by
    subst e7 e4; exact o_crash (S.ok (by simp; omega)) keep hk0 hk1 (by simp [sumS]; omega) rfl
  have q7 : Tells 1000 13 (fun g => #[.pointer (some ⟨g, 0, none⟩), .string ⟨#[102]⟩]) (.tuple #[.string b, .int .i64 0]) s6 := by
    subst e6 e5; exact o_read (by simp [S.cr]) rfl
  obtain ⟨v, ev⟩ : ∃ v, v = if bitOf keep 0 then b else a := ⟨_, rfl⟩
  have q8 : Tells 1000 13 (fun g => #[.pointer (some ⟨g, 0, none⟩), .string ⟨#[102]⟩]) (.tuple #[.string v, .int .i64 0]) s7 := by
    subst e7 e4 ev; exact o_read (by simp [S.cr]) (P a b keep)
  have hv : Aside0 (v = if bitOf keep 0 then b else a) := ⟨ev⟩
  rw [← e1] at HN
  clear e1 e2 e3 e4 e5 e6 e7 ev
  cases synced with
  | true =>
    go_enter Try.func5, Try.ntmps5
    go_wp2_with (first
      | (go_at_call 8; with_reducible refine hk.mono ?_; rintro e w1 ⟨rfl, hb1⟩)
      | (go_at_call 9; with_reducible refine (HN w1).mono ?_; rintro e w2 ⟨rfl, HD2, hb2⟩)
      | (go_at_call 14; with_reducible refine (q1 _ _ _ HD2).mono ?_; rintro e w3 ⟨rfl, HD3, hb3⟩)
      | (go_at_call 11; with_reducible refine (q2 _ _ _ HD3).mono ?_; rintro e w4 ⟨rfl, HD4, hb4⟩)
      | (go_at_call 14; with_reducible refine (q3 _ _ _ HD4).mono ?_; rintro e w5 ⟨rfl, HD5, hb5⟩)
      | (go_at_call 11; with_reducible refine (q4 _ _ _ HD5).mono ?_; rintro e w6 ⟨rfl, HD6, hb6⟩)
      | (go_at_call 12; with_reducible refine (q5 _ _ _ HD6).mono ?_; rintro e w7 ⟨rfl, HD7, hb7⟩)
      | (go_at_call 13; with_reducible refine (q7 _ _ _ HD7).mono ?_; rintro e w8 ⟨rfl, rfl⟩)
      | go_in)
    go_ret
    exact ⟨by simp, Mine.step_below hb1 (((((hb2.trans hb3).trans hb4).trans hb5).trans hb6).trans hb7)⟩
  | false =>
    cases hbv : (Go.bits .and .u64 keep 1 == 1) with
    | true =>
      have ev : v = b := by rw [hv.out, if_pos]; simp only [bitOf, Int.pow_zero, Int.ediv_one, hbv]; rfl
      clear hv
      subst ev
      go_enter Try.func5, Try.ntmps5
      go_wp2_with (first
        | (go_at_call 8; with_reducible refine hk.mono ?_; rintro e w1 ⟨rfl, hb1⟩)
        | (go_at_call 9; with_reducible refine (HN w1).mono ?_; rintro e w2 ⟨rfl, HD2, hb2⟩)
        | (go_at_call 14; with_reducible refine (q1 _ _ _ HD2).mono ?_; rintro e w3 ⟨rfl, HD3, hb3⟩)
        | (go_at_call 11; with_reducible refine (q2 _ _ _ HD3).mono ?_; rintro e w4 ⟨rfl, HD4, hb4⟩)
        | (go_at_call 14; with_reducible refine (q3 _ _ _ HD4).mono ?_; rintro e w5 ⟨rfl, HD5, hb5⟩)
        | (go_at_call 12; with_reducible refine (q6 _ _ _ HD5).mono ?_; rintro e w7 ⟨rfl, HD7, hb7⟩)
        | (go_at_call 13; with_reducible refine (q8 _ _ _ HD7).mono ?_; rintro e w8 ⟨rfl, rfl⟩)
        | go_in)
      go_ret
      exact ⟨by simp, Mine.step_below hb1 ((((hb2.trans hb3).trans hb4).trans hb5).trans hb7)⟩
    | false =>
      have ev : v = a := by rw [hv.out, if_neg]; simp only [bitOf, Int.pow_zero, Int.ediv_one, hbv]; simp
      clear hv
      subst ev
      go_enter Try.func5, Try.ntmps5
      go_wp2_with (first
        | (go_at_call 8; with_reducible refine hk.mono ?_; rintro e w1 ⟨rfl, hb1⟩)
        | (go_at_call 9; with_reducible refine (HN w1).mono ?_; rintro e w2 ⟨rfl, HD2, hb2⟩)
        | (go_at_call 14; with_reducible refine (q1 _ _ _ HD2).mono ?_; rintro e w3 ⟨rfl, HD3, hb3⟩)
        | (go_at_call 11; with_reducible refine (q2 _ _ _ HD3).mono ?_; rintro e w4 ⟨rfl, HD4, hb4⟩)
        | (go_at_call 14; with_reducible refine (q3 _ _ _ HD4).mono ?_; rintro e w5 ⟨rfl, HD5, hb5⟩)
        | (go_at_call 12; with_reducible refine (q6 _ _ _ HD5).mono ?_; rintro e w7 ⟨rfl, HD7, hb7⟩)
        | (go_at_call 13; with_reducible refine (q8 _ _ _ HD7).mono ?_; rintro e w8 ⟨rfl, rfl⟩)
        | go_in)
      go_ret
      exact ⟨by simp, Mine.step_below hb1 ((((hb2.trans hb3).trans hb4).trans hb5).trans hb7)⟩

theorem vedettelaw20_DiskPuts.walk (P : vedettelaw20_DiskPuts.Pure) (a0 a1 : ByteArray) (a2 : Int) (a3 : Bool) (w : World) (_w0 : a0.size ≤ 140737488351232) (_w1 : a1.size ≤ 140737488351232) (w2 : (Lit.int .u64 a2).wf = true) :
    Calls Try.prog 5 #[.string a0, .string a1, .int .u64 a2, .bool a3] w fun e w' => e = .returned (.bool true) ∧ Below w.heap.size w w' := by
  have b2 : 0 ≤ a2 ∧ a2 ≤ 18446744073709551615 := by simp [Lit.wf, IntKind.min, IntKind.max, IntKind.bits, IntKind.signed] at w2; omega
  by_cases h : 200 < a0.size ∨ 200 < a1.size
  · exact early_puts a0 a1 a2 a3 h w
  · exact main_puts P a0 a1 a2 a3 (by omega) (by omega) b2.1 b2.2 w

end Go.Proofs.Ytocaihmadififaa.Print
