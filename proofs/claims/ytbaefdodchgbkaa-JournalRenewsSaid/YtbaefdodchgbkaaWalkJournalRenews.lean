/- JournalRenews' walk: what the code of the statement does, told by what the journal's functions answer. -/
import Derived.Test.YtbaefdodchgbkaaJourL
namespace Go.Proofs.Ytbaefdodchgbkaa.Print
open Go.RowKit Go.Maps Go.Proofs.YtbaefdodchgbkaaW.PrintWords Go.Proofs.YtbaefdodchgbkaaW.PrintLast Go.Proofs.YtbaefdodchgbkaaW.PrintMore Go.Proofs.Ytbaefdodchgbkaa.Dk Go.Proofs.Ytbaefdodchgbkaa.Num
set_option linter.unusedVariables false
set_option linter.unusedSimpArgs false

/-- What is to be shown of plain numbers and texts. -/
def vedettelaw21_JournalRenews.Pure : Prop := ∀ (a b : List ByteArray) (k : Nat) (keep : Int), k < 4 → a.length ≤ 10 → (∀ t ∈ a, t.size ≤ 100) → b.length ≤ 10 → (∀ t ∈ b, t.size ≤ 100) → 0 ≤ keep → keep ≤ 18446744073709551615 →
  ∃ (s0 s1 s2 s3 s4 s5 : S) (e : Int) (l : List ByteArray), s0 = ⟨none, none, 0, 0, [], 0, -1⟩ ∧ Renews 100000 a 0 s0 s1 ∧ Does 100000 19 (fun g => #[.pointer (some ⟨g, 0, none⟩), .int .i64 (k : Int)]) (.tuple #[]) s1 s2 ∧
    Renews 100000 b e s2 s3 ∧ Does 100000 20 (fun g => #[.pointer (some ⟨g, 0, none⟩), .int .u64 keep]) (.tuple #[]) s3 s4 ∧ Opens 100000 l s4 s5 ∧ ((e = 0 ∧ l = b) ∨ (e = 22 ∧ (l = a ∨ l = b)))

theorem early1_renews (A0 A1 : Option Addr) (n0 c0 n1 c1 : Nat) (l0 l1 : List ByteArray) (n keep : Int) (w : World) (R0 : Rd w A0 n0 c0 l0) (hf : vedettelaw21_few.f (l0.length + 1) l0 = some false) :
    Calls Try.prog 6 #[.slice A0 n0 c0, .slice A1 n1 c1, .int .u8 n, .int .u64 keep] w fun e w' => e = .returned (.bool true) ∧ Below w.heap.size w w' := by
  have hk := known_calls w
  have f0 := fun w1 (hb : Below w.heap.size w w1) => few_calls (R0.on hb) hf
  go_enter Try.func6, Try.ntmps6
  go_wp2_with (first
    | (go_at_call 7; with_reducible refine hk.mono ?_; rintro e w1 ⟨rfl, hb⟩)
    | (go_at_call 8; with_reducible refine (f0 w1 hb).mono ?_; rintro e w2 ⟨rfl, hb2⟩))
  go_ret
  exact ⟨rfl, Mine.step_below hb hb2⟩
theorem early2_renews (A0 A1 : Option Addr) (n0 c0 n1 c1 : Nat) (l0 l1 : List ByteArray) (n keep : Int) (w : World) (R0 : Rd w A0 n0 c0 l0) (R1 : Rd w A1 n1 c1 l1) (hf : vedettelaw21_few.f (l0.length + 1) l0 = some true) (hf1 : vedettelaw21_few.f (l1.length + 1) l1 = some false) :
    Calls Try.prog 6 #[.slice A0 n0 c0, .slice A1 n1 c1, .int .u8 n, .int .u64 keep] w fun e w' => e = .returned (.bool true) ∧ Below w.heap.size w w' := by
  have hk := known_calls w
  have f0 := fun w1 (hb : Below w.heap.size w w1) => few_calls (R0.on hb) hf
  have f1 := fun w1 (hb : Below w.heap.size w w1) => few_calls (R1.on hb) hf1
  go_enter Try.func6, Try.ntmps6
  go_wp2_with (first
    | (go_at_call 7; with_reducible refine hk.mono ?_; rintro e w1 ⟨rfl, hb⟩)
    | (go_at_call 8; with_reducible refine (f0 w1 hb).mono ?_; rintro e w2 ⟨rfl, hb2⟩; have hb3 := Mine.step_below hb hb2)
    | (go_at_call 8; with_reducible refine (f1 w2 hb3).mono ?_; rintro e w3 ⟨rfl, hb4⟩))
  go_ret
  exact ⟨rfl, Mine.step_below hb3 hb4⟩

theorem main_renews (P : vedettelaw21_JournalRenews.Pure) (A0 A1 : Option Addr) (c0 c1 : Nat) (l0 l1 : List ByteArray) (n keep : Int) (k : Nat) (hk4 : k < 4) (hn : wrap64 (n.tmod 4) = (k : Int)) (hk0 : 0 ≤ keep) (hk1 : keep ≤ 18446744073709551615) (w : World)
    (Q0 : ReadsOf Value.string ByteArray.empty w A0 l0.length l0) (Q1 : ReadsOf Value.string ByteArray.empty w A1 l1.length l1) (hc0 : l0.length ≤ c0) (hc1 : l1.length ≤ c1)
    (hf : vedettelaw21_few.f (l0.length + 1) l0 = some true) (hf1 : vedettelaw21_few.f (l1.length + 1) l1 = some true) (z0 : l0.length ≤ 10 ∧ ∀ t ∈ l0, t.size ≤ 100) (z1 : l1.length ≤ 10 ∧ ∀ t ∈ l1, t.size ≤ 100) :
    Calls Try.prog 6 #[.slice A0 l0.length c0, .slice A1 l1.length c1, .int .u8 n, .int .u64 keep] w fun e w' => e = .returned (.bool true) ∧ Below w.heap.size w w' := by
  have hk := known_calls w
  have R0 := Rd.of Q0 hc0
  have R1 := Rd.of Q1 hc1
  have f0 := fun w1 (hb : Below w.heap.size w w1) => few_calls (R0.on hb) hf
  have f1 := fun w1 (hb : Below w.heap.size w w1) => few_calls (R1.on hb) hf1
  have HN := fun W => o_new 100000 (by decide) (by decide) W
  obtain ⟨s0, s1, s2, s3, s4, s5, e, l, rfl, q1, q2, q3, q4, q5, he⟩ := P l0 l1 k keep hk4 z0.1 z0.2 z1.1 z1.2 hk0 hk1
  have on0 : ∀ w1, Below w.heap.size w w1 → ReadsOf Value.string ByteArray.empty w1 A0 l0.length l0 := fun w1 hb => ⟨rfl, Q0.2.1, fun hp => by
    obtain ⟨ad, e, hc⟩ := Q0.2.2 hp
    exact ⟨ad, e, fun j hj => (hb.cell (World.block_lt_of_cell? w _ (hc j hj))).trans (hc j hj)⟩⟩
  have on1 : ∀ w1, Below w.heap.size w w1 → ReadsOf Value.string ByteArray.empty w1 A1 l1.length l1 := fun w1 hb => ⟨rfl, Q1.2.1, fun hp => by
    obtain ⟨ad, e, hc⟩ := Q1.2.2 hp
    exact ⟨ad, e, fun j hj => (hb.cell (World.block_lt_of_cell? w _ (hc j hj))).trans (hc j hj)⟩⟩
  have hll : l.length ≤ 10 := by
    rcases he with ⟨_, rfl⟩ | ⟨_, rfl | rfl⟩
    · exact z1.1
    · exact z0.1
    · exact z1.1
  obtain ⟨r1, hr1, hs1⟩ := same_f l l1 (by omega)
  obtain ⟨r0, hr0, hs0⟩ := same_f l l0 (by omega)
  have hres : (e = 0 ∧ r1 = true) ∨ (e = 22 ∧ (r1 = true ∨ (r1 = false ∧ r0 = true))) := by
    rcases he with ⟨h, rfl⟩ | ⟨h, rfl | rfl⟩
    · exact .inl ⟨h, hs1 rfl⟩
    · cases r1 with
      | true => exact .inr ⟨h, .inl rfl⟩
      | false => exact .inr ⟨h, .inr ⟨rfl, hs0 rfl⟩⟩
    · exact .inr ⟨h, .inl (hs1 rfl)⟩
  have g1 := fun (w1 : World) (A : Option Addr) n c (h : Rd w1 A n c l) (hb : Below w.heap.size w w1) => eqs_calls h (R1.on hb) hr1
  have g0 := fun (w1 : World) (A : Option Addr) n c (h : Rd w1 A n c l) (hb : Below w.heap.size w w1) => eqs_calls h (R0.on hb) hr0
  clear he hs1 hs0 hr1 hr0 hll z0 z1 hf hf1 P Q0 Q1 R0 R1
  rcases hres with ⟨rfl, rfl⟩ | ⟨rfl, rfl | ⟨rfl, rfl⟩⟩
  all_goals
    go_enter Try.func6, Try.ntmps6
    go_wp2_with (first
      | (go_at_call 7; with_reducible refine hk.mono ?_; rintro e w1 ⟨rfl, hb1⟩)
      | (go_at_call 8; with_reducible refine (f0 w1 hb1).mono ?_; rintro e w2 ⟨rfl, hb2⟩; have H2 := Mine.step_below hb1 hb2)
      | (go_at_call 8; with_reducible refine (f1 w2 H2).mono ?_; rintro e w3 ⟨rfl, hb3⟩; have H3 := Mine.step_below H2 hb3)
      | (go_at_call 13; with_reducible refine (HN w3).mono ?_; rintro e w4 ⟨rfl, HD4, hb4⟩; have H4 := Mine.step_below H3 hb4)
      | (go_at_call 21; with_reducible refine (q1 _ _ _ _ _ _ HD4 (on0 w4 H4)).mono ?_; rintro e w5 ⟨rfl, HD5, hb5, hs5⟩; have H5 := H4.trans (hb5.mono H3.size))
      | (go_at_call 19; with_reducible refine (q2 _ _ _ _ HD5).mono ?_; rintro e w6 ⟨rfl, HD6, hb6, hs6⟩; have H6 := H5.trans (hb6.mono H3.size))
      | (go_at_call 21; with_reducible refine (q3 _ _ _ _ _ _ HD6 (on1 w6 H6)).mono ?_; rintro e w7 ⟨rfl, HD7, hb7, hs7⟩; have H7 := H6.trans (hb7.mono H3.size))
      | (go_at_call 20; with_reducible refine (q4 _ _ _ _ HD7).mono ?_; rintro e w8 ⟨rfl, HD8, hb8, hs8⟩; have H8 := H7.trans (hb8.mono H3.size))
      | (go_at_call 16; with_reducible refine (q5 _ _ _ _ HD8).mono ?_; rintro e w9 ⟨v9, N9, rfl, hN9, hR9, HD9, hb9, hs9⟩; have H9 := H8.trans (hb9.mono H3.size); obtain ⟨a9, c9, rfl⟩ := hR9.slice; have R9 := hR9.rd)
      | (go_at_call 12; with_reducible refine (g1 _ _ _ _ R9 H9).mono ?_; rintro e w10 ⟨rfl, hb10⟩; have H10 := Mine.step_below H9 hb10)
      | (go_at_call 12; with_reducible refine (g0 _ _ _ _ (R9.on hb10) H10).mono ?_; rintro e w11 ⟨rfl, hb11⟩; have H11 := Mine.step_below H10 hb11))
    go_ret
    first | exact ⟨by simp, H11⟩ | exact ⟨by simp, H10⟩

theorem vedettelaw21_JournalRenews.walk (P : vedettelaw21_JournalRenews.Pure) (a0 : Option Addr) (len0 cap0 : Nat) (z0 : List ByteArray) (a1 : Option Addr) (len1 cap1 : Nat) (z1 : List ByteArray) (a2 a3 : Int) (w : World)
    (w0 : (a0 = none ∧ len0 = 0 ∧ cap0 = 0 ∧ z0 = []) ∨ ∃ x, a0 = some x ∧ len0 ≤ cap0 ∧ cap0 ≤ maxLen ∧ z0.length = cap0 ∧ (∀ i, i < z0.length → w.cell? (x.add i) = some (.string (z0.getD i ByteArray.empty))) ∧ ∀ s ∈ z0, s.size ≤ maxLen) (y0 : len0 * 16 ≤ 140737488351232)
    (w1 : (a1 = none ∧ len1 = 0 ∧ cap1 = 0 ∧ z1 = []) ∨ ∃ x, a1 = some x ∧ len1 ≤ cap1 ∧ cap1 ≤ maxLen ∧ z1.length = cap1 ∧ (∀ i, i < z1.length → w.cell? (x.add i) = some (.string (z1.getD i ByteArray.empty))) ∧ ∀ s ∈ z1, s.size ≤ maxLen) (y1 : len1 * 16 ≤ 140737488351232)
    (w2 : (Lit.int .u8 a2).wf = true) (w3 : (Lit.int .u64 a3).wf = true) :
    Calls Try.prog 6 #[.slice a0 len0 cap0, .slice a1 len1 cap1, .int .u8 a2, .int .u64 a3] w fun e w' => e = .returned (.bool true) ∧ Below w.heap.size w w' := by
  have b2 : 0 ≤ a2 ∧ a2 < 256 := by simp [Lit.wf, IntKind.min, IntKind.max, IntKind.bits, IntKind.signed] at w2; omega
  have b3 : 0 ≤ a3 ∧ a3 ≤ 18446744073709551615 := by simp [Lit.wf, IntKind.min, IntKind.max, IntKind.bits, IntKind.signed] at w3; omega
  obtain ⟨l0, rfl, hr0, hm0, hw0, hc0⟩ := Mine.ofRowS w0
  obtain ⟨l1, rfl, hr1, hm1, hw1, hc1⟩ := Mine.ofRowS w1
  obtain ⟨f0, hf0, hz0⟩ := few_f l0 (by omega)
  obtain ⟨f1, hf1, hz1⟩ := few_f l1 (by omega)
  cases f0 with
  | false => exact early1_renews a0 a1 _ _ _ _ l0 l1 a2 a3 w (Rd.of hr0 hc0) hf0
  | true =>
    cases f1 with
    | false => exact early2_renews a0 a1 _ _ _ _ l0 l1 a2 a3 w (Rd.of hr0 hc0) (Rd.of hr1 hc1) hf0 hf1
    | true =>
      obtain ⟨k, hk⟩ : ∃ k : Nat, a2 % 4 = (k : Int) := ⟨(a2 % 4).toNat, by omega⟩
      exact main_renews P a0 a1 cap0 cap1 l0 l1 a2 a3 k (by omega) (by rw [Int.tmod_eq_emod_of_nonneg b2.1, hk]; exact wrap64_of (by omega) (by omega)) b3.1 b3.2 w hr0 hr1 hc0 hc1 hf0 hf1 (hz0 rfl) (hz1 rfl)

end Go.Proofs.Ytbaefdodchgbkaa.Print
