/- SumTurned's walk: what the code of the statement does, told by what sum's functions answer. -/
import Derived.Test.YtikncpfppeiplaaPrint2
import Derived.Test.YtikncpfppeiplaaConv
namespace Go.Proofs.Ytikncpfppeiplaa.Print
open Go.RowKit Go.Proofs.YtikncpfppeiplaaW.PrintWords Go.Proofs.YtikncpfppeiplaaW.PrintLast Go.Proofs.YtikncpfppeiplaaW.PrintMore
set_option linter.unusedVariables false
set_option linter.unusedSimpArgs false

theorem early_turned (b tail : ByteArray) (at_ bit cut : Int) (w : World) (k : Nat) (hk : vedettelaw2_known.f k = some true) (hbig : b.size > 120 ∨ tail.size > 50) :
    Calls Try.prog 4 #[.string b, .int .u16 at_, .int .u8 bit, .int .u8 cut, .string tail] w fun e w' => e = .returned (.bool true) ∧ Below w.heap.size w w' := by
  have Hk := Aside0.mk hk
  clear hk
  have h2 : (decide (120 < (b.size : Int)) = true) ∨ (decide (120 < (b.size : Int)) = false ∧ decide (50 < (tail.size : Int)) = true) := by
    by_cases h : b.size > 120
    · exact .inl (decide_eq_true (by omega))
    · exact .inr ⟨decide_eq_false (by omega), decide_eq_true (by omega)⟩
  clear hbig
  rcases h2 with h2 | ⟨h2, h3⟩
  all_goals
    go_enter Try.func4, Try.ntmps4
    go_wp2_with (go_at_call 9; refine (vedettelaw2_known.calls k true _ Hk.out).mono ?_; rintro e w1 ⟨rfl, hb⟩)
    go_ret
    exact ⟨rfl, hb⟩
set_option maxHeartbeats 4000000 in
set_option maxRecDepth 100000 in
theorem main_turned (b tail s t x : ByteArray) (at_ bit cut n c : Int) (q p : Nat) (w : World) (k : Nat) (hk : vedettelaw2_known.f k = some true) (hb1 : b.size ≤ 120) (ht1 : tail.size ≤ 50)
    (hbit : 0 ≤ bit ∧ bit < 256) (hcut : 0 ≤ cut ∧ cut < 256)
    (hw : sum_Wrap.f k b = some s) (hs : s.size = b.size + 5) (ho : sum_Open.f (s ++ tail) = some (b, (s.size : Int), 0))
    (hq : wrap64 (1 + (wrap64 at_).tmod ((s.size : Int) - 1)) = (q : Int)) (hq2 : q < s.size) (hc : bt s q = c)
    (ht : strOfNums ((bytesOf s).set q (Go.bits .xor .u8 c (2 ^ (bit % 8).toNat % 256))) = t) (hp : cut % (s.size : Int) = (p : Int)) (hp2 : p ≤ s.size)
    (ho2 : sum_Open.f (t ++ tail) = some (⟨#[]⟩, 0, 12)) (ho3 : sum_Open.f (s.extract 0 p) = some (x, n, 10)) :
    Calls Try.prog 4 #[.string b, .int .u16 at_, .int .u8 bit, .int .u8 cut, .string tail] w fun e w' => e = .returned (.bool true) ∧ Below w.heap.size w w' := by
  have Hk := Aside0.mk hk
  have Hw := Aside0.mk hw
  have Ho := Aside0.mk ho
  have Ho2 := Aside0.mk ho2
  have Ho3 := Aside0.mk ho3
  have kb := fun W => print_bytes (P := Try.prog) 9 33 5 Try.underlying9 Try.underlying33 Try.underlying5 s W
  have kp := fun W => Mine.conv_put (P := Try.prog) W 5 33 9 Try.underlying33 Try.underlying5 Try.underlying9 s (by omega) q hq2 (Go.bits .xor .u8 c (2 ^ (bit % 8).toNat % 256)) (grownCap W s.size 0 5)
  have h7 : t.size + tail.size ≤ 9223372036854775807 := by rw [← ht, strOfNums_size, List.length_set, bytesOf_length]; omega
  rw [ht] at kp
  have h1 : decide (120 < (b.size : Int)) = false := decide_eq_false (by omega)
  have h2 : decide (50 < (tail.size : Int)) = false := decide_eq_false (by omega)
  have h3 : s.size + tail.size ≤ 9223372036854775807 := by omega
  have h4 : (((s.size : Int)) != (b.size : Int) + 5) = false := bne_eq_false_iff_eq.mpr (by omega)
  have h5 : 5 ≤ s.size := by omega
  have h6 : s.size ≤ 200 := by omega
  have hbit1 := hbit.1
  have hbit2 := hbit.2
  have hcut1 := hcut.1
  have hcut2 := hcut.2
  have hce := fun W => Mine.conv_cell W 5 s q hq2 (by omega)
  rw [hc] at hce
  have hfr := fun W => Mine.conv_frozen W 5 s q hq2
  clear hk hw ho hs hc ht ho2 ho3 hbit hcut
  have HB := Aside0.mk (Below.refl w.heap.size w)
  go_enter Try.func4, Try.ntmps4
  go_wp2_with (first | (go_at_call 9; refine (vedettelaw2_known.calls k true _ Hk.out).mono ?_; rintro e w1 ⟨rfl, hb⟩; have HB1 := Aside0.mk (Mine.step_below HB.out hb); clear hb HB) | (go_at_call 14; refine (sum_Wrap.calls k b s _ Hw.out).mono ?_; rintro e w2 ⟨rfl, hb⟩; have HB2 := Aside0.mk (Mine.step_below HB1.out hb); clear hb HB1) | (go_at_call 10; (with_reducible refine (sum_Open.calls (s ++ tail) b s.size 0 _ Ho.out).mono ?_); rintro e w3 ⟨rfl, hb⟩; have HB3 := Aside0.mk (Mine.step_below HB2.out hb); clear hb HB2) | (go_at_call 10; (with_reducible refine (sum_Open.calls (t ++ tail) ⟨#[]⟩ 0 12 _ Ho2.out).mono ?_); rintro e w4 ⟨rfl, hb⟩; have HB4 := Aside0.mk (Mine.step_below (Mine.below_conv HB3.out HB3.out.size 5 s q _) hb); clear hb HB3) | (go_at_call 10; (with_reducible refine (sum_Open.calls (s.extract 0 p) x n 10 _ Ho3.out).mono ?_); rintro e w5 ⟨rfl, hb⟩; have HB5 := Aside0.mk (Mine.step_below HB4.out hb); clear hb HB4))
  go_ret
  exact ⟨rfl, HB5.out⟩

/-- What is to be shown of plain numbers and texts. -/
def vedettelaw2_SumTurned.Known : Prop := ∃ k, vedettelaw2_known.f k = some true
def vedettelaw2_SumTurned.Pure : Prop := vedettelaw2_SumTurned.Known ∧ ∀ (b tail : ByteArray) (at_ bit cut : Int), b.size ≤ 120 → tail.size ≤ 50 → (Lit.int .u16 at_).wf = true → (Lit.int .u8 bit).wf = true → (Lit.int .u8 cut).wf = true →
  ∃ (k : Nat) (s t x : ByteArray) (n : Int) (q p : Nat), sum_Wrap.f k b = some s ∧ s.size = b.size + 5 ∧ sum_Open.f (s ++ tail) = some (b, (s.size : Int), 0) ∧
    wrap64 (1 + (wrap64 at_).tmod ((s.size : Int) - 1)) = (q : Int) ∧ q < s.size ∧ strOfNums ((bytesOf s).set q (Go.bits .xor .u8 (bt s q) (2 ^ (bit % 8).toNat % 256))) = t ∧
    cut % (s.size : Int) = (p : Int) ∧ p ≤ s.size ∧ sum_Open.f (t ++ tail) = some (⟨#[]⟩, 0, 12) ∧ sum_Open.f (s.extract 0 p) = some (x, n, 10)
theorem vedettelaw2_SumTurned.walk (P : vedettelaw2_SumTurned.Pure) (a0 : ByteArray) (a1 a2 a3 : Int) (a4 : ByteArray) (w : World) (_w0 : a0.size ≤ 140737488351232) (w1 : (Lit.int .u16 a1).wf = true) (w2 : (Lit.int .u8 a2).wf = true) (w3 : (Lit.int .u8 a3).wf = true) (_w4 : a4.size ≤ 140737488351232) :
    Calls Try.prog 4 #[.string a0, .int .u16 a1, .int .u8 a2, .int .u8 a3, .string a4] w fun e w' => e = .returned (.bool true) ∧ Below w.heap.size w w' := by
  obtain ⟨⟨k, hk⟩, P⟩ := P
  by_cases h : a0.size > 120 ∨ a4.size > 50
  · exact early_turned a0 a4 a1 a2 a3 w k hk h
  · obtain ⟨k2, s, t, x, n, q, p, hw, hs, ho, hq, hq2, ht, hp, hp2, ho2, ho3⟩ := P a0 a4 a1 a2 a3 (by omega) (by omega) w1 w2 w3
    have b2 : 0 ≤ a2 ∧ a2 < 256 := by simp [Lit.wf, IntKind.min, IntKind.max, IntKind.bits, IntKind.signed] at w2; omega
    have b3 : 0 ≤ a3 ∧ a3 < 256 := by simp [Lit.wf, IntKind.min, IntKind.max, IntKind.bits, IntKind.signed] at w3; omega
    exact main_turned a0 a4 s t x a1 a2 a3 n (bt s q) q p w (max k k2) (at_rounds (g := fun k => vedettelaw2_known.f k) (fun k => vedettelaw2_known.mono k) (Nat.le_max_left _ _) hk) (by omega) (by omega) b2 b3 (at_rounds (g := fun k => sum_Wrap.f k a0) (fun k => sum_Wrap.mono a0 k) (Nat.le_max_right _ _) hw) hs ho hq hq2 rfl ht hp hp2 ho2 ho3
end Go.Proofs.Ytikncpfppeiplaa.Print
