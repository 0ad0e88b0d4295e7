/- JournalOpens' walk: what the code of the statement does, told by what the journal's functions answer. -/
import Derived.Test.YtbaefdodchgbkaaJourL
namespace Go.Proofs.Ytbaefdodchgbkaa.Print
open Go.RowKit Go.Maps Go.Proofs.YtbaefdodchgbkaaW.PrintWords Go.Proofs.YtbaefdodchgbkaaW.PrintLast Go.Proofs.YtbaefdodchgbkaaW.PrintMore Go.Proofs.Ytbaefdodchgbkaa.Dk Go.Proofs.Ytbaefdodchgbkaa.Num
set_option linter.unusedVariables false
set_option linter.unusedSimpArgs false

/-- What is to be shown of plain numbers and texts. -/
def vedettelaw21_JournalOpens.Pure : Prop := ∀ (l : List ByteArray) (more last : ByteArray) (k : Nat) (keep : Int), k < 3 → l.length ≤ 10 → (∀ t ∈ l, t.size ≤ 100) → more.size ≤ 100 → last.size ≤ 100 → 0 ≤ keep → keep ≤ 18446744073709551615 →
  ∃ (T : Nat → S) (s1 s2 s3 s4 s5 s6 : S) (e : Int) (a : List ByteArray), T 0 = ⟨none, none, 0, 0, [], 0, -1⟩ ∧ (∀ i (h : i < l.length), Writes 100000 l[i] 0 (T i) (T (i + 1))) ∧
    Does 100000 19 (fun g => #[.pointer (some ⟨g, 0, none⟩), .int .i64 (k : Int)]) (.tuple #[]) (T l.length) s1 ∧
    Writes 100000 more e s1 s2 ∧ Does 100000 20 (fun g => #[.pointer (some ⟨g, 0, none⟩), .int .u64 keep]) (.tuple #[]) s2 s3 ∧ Opens 100000 a s3 s4 ∧
    Writes 100000 last 0 s4 s5 ∧ Opens 100000 (a ++ [last]) s5 s6 ∧ ((k = 2 ∧ e = 0 ∧ a = l ++ [more]) ∨ (k ≠ 2 ∧ e = 22 ∧ (a = l ++ [more] ∨ a = l)))

theorem Rd.len {w : World} {A : Option Addr} {n n' c : Nat} {l : List ByteArray} (h : Rd w A n c l) (e : n' = l.length) : Rd w A n' c l := ⟨e, h.2⟩
theorem early_opens (A0 : Option Addr) (n0 c0 : Nat) (l0 : List ByteArray) (more last : ByteArray) (n keep : Int) (w : World) (R0 : Rd w A0 n0 c0 l0) (b : Bool) (hf : vedettelaw21_few.f (l0.length + 1) l0 = some b) (h : b = false ∨ 100 < more.size ∨ 100 < last.size) :
    Calls Try.prog 5 #[.slice A0 n0 c0, .string more, .string last, .int .u8 n, .int .u64 keep] w fun e w' => e = .returned (.bool true) ∧ Below w.heap.size w w' := by
  have hk := known_calls w
  have f0 := fun w1 (hb : Below w.heap.size w w1) => few_calls (R0.on hb) hf
  cases b with
  | false =>
    go_enter Try.func5, Try.ntmps5
    go_wp2_with (first
      | (go_at_call 7; with_reducible refine hk.mono ?_; rintro e w1 ⟨rfl, hb⟩)
      | (go_at_call 8; with_reducible refine (f0 w1 hb).mono ?_; rintro e w2 ⟨rfl, hb2⟩))
    go_ret
    exact ⟨rfl, Mine.step_below hb hb2⟩
  | true =>
    by_cases h1 : 100 < more.size
    · have h1z : decide (100 < (more.size : Int)) = true := decide_eq_true (by omega)
      go_enter Try.func5, Try.ntmps5
      go_wp2_with (first
        | (go_at_call 7; with_reducible refine hk.mono ?_; rintro e w1 ⟨rfl, hb⟩)
        | (go_at_call 8; with_reducible refine (f0 w1 hb).mono ?_; rintro e w2 ⟨rfl, hb2⟩))
      go_ret
      exact ⟨rfl, Mine.step_below hb hb2⟩
    · have h1z : decide (100 < (more.size : Int)) = false := decide_eq_false (by omega)
      have h2z : decide (100 < (last.size : Int)) = true := decide_eq_true (by rcases h with h | h | h; cases h; omega; omega)
      go_enter Try.func5, Try.ntmps5
      go_wp2_with (first
        | (go_at_call 7; with_reducible refine hk.mono ?_; rintro e w1 ⟨rfl, hb⟩)
        | (go_at_call 8; with_reducible refine (f0 w1 hb).mono ?_; rintro e w2 ⟨rfl, hb2⟩))
      go_ret
      exact ⟨rfl, Mine.step_below hb hb2⟩

set_option maxHeartbeats 1000000 in
theorem main_opens (P : vedettelaw21_JournalOpens.Pure) (A0 : Option Addr) (c0 : Nat) (l0 : List ByteArray) (more last : ByteArray) (n keep : Int) (k : Nat) (hk3 : k < 3) (hn : wrap64 (n.tmod 3) = (k : Int)) (hn2 : n.tmod 3 = (k : Int)) (hk0 : 0 ≤ keep) (hk1 : keep ≤ 18446744073709551615) (w : World)
    (Q0 : ReadsOf Value.string ByteArray.empty w A0 l0.length l0) (hc0 : l0.length ≤ c0)
    (hf : vedettelaw21_few.f (l0.length + 1) l0 = some true) (z0 : l0.length ≤ 10 ∧ ∀ t ∈ l0, t.size ≤ 100) (hm : more.size ≤ 100) (hl : last.size ≤ 100) :
    Calls Try.prog 5 #[.slice A0 l0.length c0, .string more, .string last, .int .u8 n, .int .u64 keep] w fun e w' => e = .returned (.bool true) ∧ Below w.heap.size w w' := by
  have hk := known_calls w
  have R0 := Rd.of Q0 hc0
  have f0 := fun w1 (hb : Below w.heap.size w w1) => few_calls (R0.on hb) hf
  have HN := fun W => o_new 100000 (by decide) (by decide) W
  obtain ⟨T, s1, s2, s3, s4, s5, s6, e, a, hT0, q0, q1, q2, q3, q4, q5, q6, he⟩ := P l0 more last k keep hk3 z0.1 z0.2 hm hl hk0 hk1
  rw [← hT0] at HN
  have hmz : decide (100 < (more.size : Int)) = false := decide_eq_false (by omega)
  have hlz : decide (100 < (last.size : Int)) = false := decide_eq_false (by omega)
  go_enter Try.func5, Try.ntmps5
  go_wp2_with (first
    | (go_at_call 7; with_reducible refine hk.mono ?_; rintro e w1 ⟨rfl, hb1⟩)
    | (go_at_call 8; with_reducible refine (f0 w1 hb1).mono ?_; rintro e w2 ⟨rfl, hb2⟩; have H2 := Mine.step_below hb1 hb2)
    | (go_at_call 13; with_reducible refine (HN w2).mono ?_; rintro e w3 ⟨rfl, HD3, hb3⟩; have H3 := Mine.step_below H2 hb3))
  go_loopw [12] (fun v12 wr => ∃ i : Nat, i ≤ l0.length ∧ v12 = .int .i64 (i : Int) ∧ At1 (fun _ => False) (w2.heap.size + 2) w2.heap.size wr ((T i).d 100000) ∧ Below w.heap.size w wr)
    (fun v12 _ => l0.length - (intOf v12).toNat)
  case atStart => exact ⟨0, by omega, rfl, HD3, H3⟩
  case round =>
    obtain ⟨i, hi, rfl, HDi, HBi⟩ := hrel
    by_cases hlt : i < l0.length
    · have hltz : decide ((i : Int) < (l0.length : Int)) = true := decide_eq_true (by omega)
      obtain ⟨x, rfl, hc, hxb⟩ := row_at Q0 HBi hlt
      have Q := q0 i hlt
      clear q0
      go_wp2_with (first
        | (go_at_call 18; with_reducible refine (Q _ _ _ _ HDi).mono ?_; rintro e w4 ⟨rfl, HD4, hb4, hs4⟩))
      exact ⟨⟨i + 1, by omega, by simp, HD4, HBi.trans (hb4.mono H2.size)⟩, by simp [intOf]; omega⟩
    · obtain rfl : i = l0.length := by omega
      have hltz : decide ((l0.length : Int) < (l0.length : Int)) = false := decide_eq_false (by omega)
      clear q0
      have hall : a.length ≤ 11 := by
        rcases he with ⟨_, _, rfl⟩ | ⟨_, _, rfl | rfl⟩
        · simp; omega
        · simp; omega
        · omega
      obtain ⟨r1, hr1, hs1⟩ := same_f a (l0 ++ [more]) (by omega)
      obtain ⟨r0, hr0, hs0⟩ := same_f a l0 (by omega)
      obtain ⟨r2, hr2, hs2⟩ := same_f (a ++ [last]) (a ++ [last]) (by simp; omega)
      obtain rfl : true = r2 := (hs2 rfl).symm
      have hres : (k = 2 ∧ e = 0 ∧ r1 = true) ∨ (k ≠ 2 ∧ e = 22 ∧ (r1 = true ∨ (r1 = false ∧ r0 = true))) := by
        rcases he with ⟨h, h2, h3⟩ | ⟨h, h2, h3⟩
        · exact .inl ⟨h, h2, hs1 h3⟩
        · refine .inr ⟨h, h2, ?_⟩
          rcases h3 with h3 | h3
          · exact .inl (hs1 h3)
          · cases r1 with
            | true => exact .inl rfl
            | false => exact .inr ⟨rfl, hs0 h3⟩
      clear he hs1 hs0 hs2
      have hres2 : ∃ kb : Bool, ((k : Int) == 2) = kb ∧ ((kb = true ∧ e = 0 ∧ r1 = true) ∨ (kb = false ∧ e = 22 ∧ (r1 = true ∨ (r1 = false ∧ r0 = true)))) := by
        rcases hres with ⟨h, h2⟩ | ⟨h, h2⟩
        · exact ⟨true, by subst h; rfl, .inl ⟨rfl, h2⟩⟩
        · exact ⟨false, beq_eq_false_iff_ne.mpr (by omega), .inr ⟨rfl, h2⟩⟩
      clear hres
      obtain ⟨kb, hkb, hres⟩ := hres2
      clear hltz
      rcases hres with ⟨rfl, rfl, rfl⟩ | ⟨rfl, rfl, rfl | ⟨rfl, rfl⟩⟩
      all_goals
        go_wp2_with (first
          | (go_at_call 19; with_reducible refine (q1 _ _ _ _ HDi).mono ?_; rintro e w5 ⟨rfl, HD5, hb5, hs5⟩; have H5 := HBi.trans (hb5.mono H2.size))
          | (go_at_call 18; with_reducible refine (q2 _ _ _ _ HD5).mono ?_; rintro e w6 ⟨rfl, HD6, hb6, hs6⟩; have H6 := H5.trans (hb6.mono H2.size))
          | (go_at_call 20; with_reducible refine (q3 _ _ _ _ HD6).mono ?_; rintro e w7 ⟨rfl, HD7, hb7, hs7⟩; have H7 := H6.trans (hb7.mono H2.size))
          | (go_at_call 16; with_reducible refine (q4 _ _ _ _ HD7).mono ?_; rintro e w8 ⟨v8, N8, rfl, hN8, hR8, HD8, hb8, hs8⟩; have H8 := H7.trans (hb8.mono H2.size); obtain ⟨a8, c8, rfl⟩ := hR8.slice; have R8 := hR8.rd)
          | ((with_reducible refine gate_builtin (b := .append) (xs := #[.const (.slice none 0 0), .tmp 83]) rfl ?_); at_builtin; refine Kd.R_append_row Value.string ByteArray.empty (h1 := fun _ => rfl) (w0 := w8) w8.heap.size rfl (.const (.slice none 0 0)) (.tmp 83) 22 9 (.string ⟨#[]⟩) 16 rfl Try.underlying22 info9 rfl (by decide) (.slice none 0 0) [] l0 A0 l0.length c0 (fun _ => True) rfl rfl (fun _ _ => trivial) (Kd.R_nil _ _ _ _ _) (R0.on H8).2.2 (Below.refl _ _) (Nat.le_refl _) (by simp; omega) ?_; intro v9 w9 ho hb9 hg hat; rw [List.nil_append] at ho; have hR9 : Kd.string.R 9 w9 w8.heap.size (fun _ => True) v9 l0 := ho; clear ho hg hat)
          | ((with_reducible refine gate_builtin (b := .append) (xs := #[.tmp 84, .tmp 86]) rfl ?_); at_builtin; (refine Kd.R_append Kd.string (w0 := w8) w8.heap.size rfl (.tmp 84) (.tmp 86) 22 9 (.string ⟨#[]⟩) 16 rfl Try.underlying22 info9 rfl (by decide) (by omega) v9 l0 more [.string more] (fun _ => True) (fun _ => False) rfl rfl rfl (fun _ hk => hk.elim) (fun _ _ => trivial) hR9 hb9 (below_size hb9) (by omega) ?_); intro v10 w10 ho hb10 hg hat; obtain ⟨A10, c10, rfl, hc10, hC10⟩ := Kd.R_reads ho; have R10 : Rd w10 A10 (l0.length + 1) c10 (l0 ++ [more]) := ⟨by simp, hc10, hC10⟩; have HD10 := HD8.on hb10; have hS10 := HD8.same hb10; have H10 := Mine.step_below H8 hb10; clear ho hg hat hC10 hR9)
          | (go_at_call 12; with_reducible refine (eqs_calls (R8.on hb10) R10 hr1).mono ?_; rintro e w11 ⟨rfl, hb11⟩; have HD11 := HD10.on hb11; have hS11 := hS10.trans (HD10.same hb11); have H11 := Mine.step_below H10 hb11)
          | (go_at_call 12; with_reducible refine (eqs_calls (R8.on (hb10.trans (hb11.mono (below_size hb10)))) (R0.on H11) hr0).mono ?_; rintro e w11b ⟨rfl, hb11b⟩; have HD11b := HD11.on hb11b; have hS11b := hS11.trans (HD11.same hb11b); have H11b := Mine.step_below H11 hb11b)
          | (go_at_call 18; with_reducible refine (q5 _ _ _ _ HD11b).mono ?_; rintro e w12 ⟨rfl, HD12, hb12, hs12⟩; have hS12 := hS11b.trans hs12; have H12 := H11b.trans (hb12.mono H2.size))
          | (go_at_call 18; with_reducible refine (q5 _ _ _ _ HD11).mono ?_; rintro e w12 ⟨rfl, HD12, hb12, hs12⟩; have hS12 := hS11.trans hs12; have H12 := H11.trans (hb12.mono H2.size))
          | (go_at_call 16; with_reducible refine (q6 _ _ _ _ HD12).mono ?_; rintro e w13 ⟨v13, N13, rfl, hN13, hR13, HD13, hb13, hs13⟩; have hS13 := hS12.trans hs13; have H13 := H12.trans (hb13.mono H2.size); obtain ⟨a13, c13, rfl⟩ := hR13.slice; have R13 : Rd w13 a13 (a.length + 1) c13 (a ++ [last]) := Rd.len hR13.rd (by simp); have R8' := (hR8.same hS13).rd)
          | ((with_reducible refine gate_builtin (b := .append) (xs := #[.const (.slice none 0 0), .tmp 118]) rfl ?_); at_builtin; refine gate_guard (wanted_on rfl rfl rfl rfl) ?_; (refine Kd.R_append_row Value.string ByteArray.empty (h1 := fun _ => rfl) (w0 := w13) w13.heap.size rfl (.const (.slice none 0 0)) (.tmp 118) 22 9 (.string ⟨#[]⟩) 16 rfl Try.underlying22 info9 rfl (by decide) (.slice none 0 0) [] a a8 a.length c8 (fun _ => True) rfl rfl (fun _ _ => trivial) (Kd.R_nil _ _ _ _ _) R8'.2.2 (Below.refl _ _) (Nat.le_refl _) (by simp; omega) ?_); intro v14 w14 ho hb14 hg hat; rw [List.nil_append] at ho; have hR14 : Kd.string.R 9 w14 w13.heap.size (fun _ => True) v14 a := ho; clear ho hg hat)
          | ((with_reducible refine gate_builtin (b := .append) (xs := #[.tmp 119, .tmp 121]) rfl ?_); at_builtin; refine gate_guard (wanted_on rfl rfl rfl rfl) ?_; (refine Kd.R_append Kd.string (w0 := w13) w13.heap.size rfl (.tmp 119) (.tmp 121) 22 9 (.string ⟨#[]⟩) 16 rfl Try.underlying22 info9 rfl (by decide) (by omega) v14 a last [.string last] (fun _ => True) (fun _ => False) rfl rfl rfl (fun _ hk => hk.elim) (fun _ _ => trivial) hR14 hb14 (below_size hb14) (by omega) ?_); intro v15 w15 ho hb15 hg hat; obtain ⟨A15, c15, rfl, hc15, hC15⟩ := Kd.R_reads ho; have R15 : Rd w15 A15 (a.length + 1) c15 (a ++ [last]) := ⟨by simp, hc15, hC15⟩; have H15 := Mine.step_below H13 hb15; clear ho hg hat hC15 hR14)
          | (go_at_call 12; with_reducible refine (eqs_calls (R13.on hb15) R15 hr2).mono ?_; rintro e w16 ⟨rfl, hb16⟩; have H16 := Mine.step_below H15 hb16))
        go_ret
        exact ⟨by simp, H16⟩

theorem vedettelaw21_JournalOpens.walk (P : vedettelaw21_JournalOpens.Pure) (a0 : Option Addr) (len0 cap0 : Nat) (z0 : List ByteArray) (a1 a2 : ByteArray) (a3 a4 : Int) (w : World)
    (w0 : (a0 = none ∧ len0 = 0 ∧ cap0 = 0 ∧ z0 = []) ∨ ∃ x, a0 = some x ∧ len0 ≤ cap0 ∧ cap0 ≤ maxLen ∧ z0.length = cap0 ∧ (∀ i, i < z0.length → w.cell? (x.add i) = some (.string (z0.getD i ByteArray.empty))) ∧ ∀ s ∈ z0, s.size ≤ maxLen) (y0 : len0 * 16 ≤ 140737488351232)
    (_w1 : a1.size ≤ 140737488351232) (_w2 : a2.size ≤ 140737488351232) (w3 : (Lit.int .u8 a3).wf = true) (w4 : (Lit.int .u64 a4).wf = true) :
    Calls Try.prog 5 #[.slice a0 len0 cap0, .string a1, .string a2, .int .u8 a3, .int .u64 a4] w fun e w' => e = .returned (.bool true) ∧ Below w.heap.size w w' := by
  have b3 : 0 ≤ a3 ∧ a3 < 256 := by simp [Lit.wf, IntKind.min, IntKind.max, IntKind.bits, IntKind.signed] at w3; omega
  have b4 : 0 ≤ a4 ∧ a4 ≤ 18446744073709551615 := by simp [Lit.wf, IntKind.min, IntKind.max, IntKind.bits, IntKind.signed] at w4; omega
  obtain ⟨l0, rfl, hr0, hm0, hw0, hc0⟩ := Mine.ofRowS w0
  obtain ⟨f0, hf0, hz0⟩ := few_f l0 (by omega)
  by_cases h : f0 = false ∨ 100 < a1.size ∨ 100 < a2.size
  · exact early_opens a0 _ _ l0 a1 a2 a3 a4 w (Rd.of hr0 hc0) f0 hf0 h
  · obtain rfl : f0 = true := by cases f0 with | false => exact absurd (.inl rfl) h | true => rfl
    obtain ⟨k, hk⟩ : ∃ k : Nat, a3 % 3 = (k : Int) := ⟨(a3 % 3).toNat, by omega⟩
    have ht : a3.tmod 3 = (k : Int) := by rw [Int.tmod_eq_emod_of_nonneg b3.1, hk]
    exact main_opens P a0 cap0 l0 a1 a2 a3 a4 k (by omega) (by rw [ht]; exact wrap64_of (by omega) (by omega)) ht b4.1 b4.2 w hr0 hc0 hf0 (hz0 rfl) (by omega) (by omega)

end Go.Proofs.Ytbaefdodchgbkaa.Print
