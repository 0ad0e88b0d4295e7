/- DiskKeeps' walk: what the code of the statement does, told by what the disk's functions answer. -/
import Derived.Test.YtocaihmadififaaDiskJ
import Derived.RegionTactic
import Derived.ChangeAlike
import Derived.BigRegion
namespace Go.Proofs.Ytocaihmadififaa.Print
open Go.RowKit Go.Maps Go.Proofs.YtocaihmadififaaW.PrintWords Go.Proofs.YtocaihmadififaaW.PrintLast Go.Proofs.YtocaihmadififaaW.PrintMore Go.Proofs.Ytocaihmadififaa.Dk
set_option linter.unusedVariables false
set_option linter.unusedSimpArgs false

/-- What is to be shown of plain numbers and texts. -/
def vedettelaw20_DiskKeeps.Pure : Prop := ∀ (keep : Int) (l : List ByteArray) (m : Option ByteArray),
  (∀ v, play keep 0 m false (l.map (·, false)) = some v → Pre (m.getD ByteArray.empty) v ∧ Pre v (m.getD ByteArray.empty ++ cat l)) ∧ (play keep 0 m false (l.map (·, false)) = none → m = none)

theorem early_keeps (x0 x1 : Option Addr) (l0 l1 : List ByteArray) (c0 c1 : Nat) (keep : Int) (h : 20 < l0.length ∨ 20 < l1.length) (w : World) :
    Calls Try.prog 3 #[.slice x0 l0.length c0, .slice x1 l1.length c1, .int .u64 keep] w fun e w' => e = .returned (.bool true) ∧ Below w.heap.size w w' := by
  have hk := known_calls w
  by_cases ha : 20 < l0.length
  · have h1 : decide (20 < (l0.length : Int)) = true := decide_eq_true (by omega)
    go_enter Try.func3, Try.ntmps3
    go_wp2_with (go_at_call 8; with_reducible refine hk.mono ?_; rintro e w1 ⟨rfl, hb⟩)
    go_ret
    exact ⟨rfl, hb⟩
  · have h1 : decide (20 < (l0.length : Int)) = false := decide_eq_false (by omega)
    have h2 : decide (20 < (l1.length : Int)) = true := decide_eq_true (by omega)
    go_enter Try.func3, Try.ntmps3
    go_wp2_with (go_at_call 8; with_reducible refine hk.mono ?_; rintro e w1 ⟨rfl, hb⟩)
    go_ret
    exact ⟨rfl, hb⟩

def All (n : Nat) (l : List ByteArray) : Prop := ∀ j (h : j < l.length), j < n → l[j].size ≤ 100
theorem All.mem {l : List ByteArray} {n : Nat} (h : All n l) : ∀ b ∈ l.take n, b.size ≤ 100 := by
  intro b hb
  obtain ⟨j, hj, rfl⟩ := List.getElem_of_mem hb
  rw [List.length_take] at hj
  rw [List.getElem_take]
  exact h j (by omega) (by omega)
/-- One append of a row. -/
theorem gat_step {s : S} (hs : s.left = -1) (l : List ByteArray) (i : Nat) (hi : i < l.length) (hl : l.length ≤ 20) (ha : All (i + 1) l) (hb : 0 ≤ s.steps ∧ s.steps ≤ 1000 ∧ s.nn ≤ 1000 ∧ s.kn ≤ 1000 ∧ s.l.length ≤ 1000 ∧ s.cur.size ≤ 3000) :
    Does 100000 10 (fun g => #[.pointer (some ⟨g, 0, none⟩), .string ⟨#[102]⟩, .string l[i]]) (.int .i64 0) (gat s (l.take i)) (gat s (l.take (i + 1))) := by
  have hz := ha i hi (by omega)
  have hc : (cat (l.take i)).size ≤ (l.take i).length * 100 := cat_le 100 _ (fun b hb => All.mem (n := i) (fun j hj hji => ha j hj (by omega)) b hb)
  have hlt : (l.take i).length = i := by rw [List.length_take]; omega
  rw [hlt] at hc
  obtain ⟨h1, h2, h3, h4, h5, h6, h7, h8⟩ := gat_of (l.take i) hs
  rw [hlt] at h3 h4
  have hcur : (gat s (l.take i)).cur.size ≤ 3000 + i * 100 := by rw [h7, ByteArray.size_append]; omega
  refine o_append ⟨by omega, by omega, by omega, by omega, by omega, by omega, ?_, by omega, by decide, by decide⟩ l[i] (by omega) (by omega) (by rw [ByteArray.size_append]; omega) ?_
  · rw [h6, List.length_append, List.length_map, hlt]; omega
  · rw [List.take_succ_eq_append_getElem hi, gat_append]; rfl

theorem row_at {w wr : World} {A : Option Addr} {l : List ByteArray} (h : ReadsOf Value.string ByteArray.empty w A l.length l) (hB : Below w.heap.size w wr) {j : Nat} (hj : j < l.length) :
    ∃ x, A = some x ∧ wr.cell? (x.add j) = some (.string l[j]) ∧ (x.add j).block < w.heap.size := by
  obtain ⟨x, e, hc⟩ := h.2.2 (by omega)
  have h1 := hc j hj
  rw [List.getD_eq_getElem?_getD, List.getElem?_eq_getElem hj, Option.getD_some] at h1
  have hl := World.block_lt_of_cell? w _ h1
  exact ⟨x, e, (hB.cell hl).trans h1, hl⟩
theorem cat_take {l : List ByteArray} {j : Nat} (hj : j < l.length) : cat (l.take j) ++ l[j] = cat (l.take (j + 1)) := by
  rw [List.take_succ_eq_append_getElem hj, cat_append]

theorem main_keeps (P : vedettelaw20_DiskKeeps.Pure) (x0 x1 : Option Addr) (l0 l1 : List ByteArray) (c0 c1 : Nat) (keep : Int) (hl0 : l0.length ≤ 20) (hl1 : l1.length ≤ 20) (hk0 : 0 ≤ keep) (hk1 : keep ≤ 18446744073709551615) (w : World)
    (R0 : ReadsOf Value.string ByteArray.empty w x0 l0.length l0) (R1 : ReadsOf Value.string ByteArray.empty w x1 l1.length l1) :
    Calls Try.prog 3 #[.slice x0 l0.length c0, .slice x1 l1.length c1, .int .u64 keep] w fun e w' => e = .returned (.bool true) ∧ Below w.heap.size w w' := by
  have hk := known_calls w
  have HN := fun W => o_new 100000 (by decide) (by decide) W
  obtain ⟨s0, e0⟩ : ∃ s, s = (⟨none, none, 0, 0, [], 0, -1⟩ : S) := ⟨_, rfl⟩
  have q1 : ∀ i (hi : i < l0.length), All (i + 1) l0 → Does 100000 10 (fun g => #[.pointer (some ⟨g, 0, none⟩), .string ⟨#[102]⟩, .string l0[i]]) (.int .i64 0) (gat s0 (l0.take i)) (gat s0 (l0.take (i + 1))) :=
    fun i hi ha => gat_step (by rw [e0]) l0 i hi hl0 ha (by rw [e0]; decide)
  rw [← e0] at HN
  have h1 : decide (20 < (l0.length : Int)) = false := decide_eq_false (by omega)
  have h2 : decide (20 < (l1.length : Int)) = false := decide_eq_false (by omega)
  go_enter Try.func3, Try.ntmps3
  go_wp2_with (first
    | (go_at_call 8; with_reducible refine hk.mono ?_; rintro e w1 ⟨rfl, hb1⟩)
    | (go_at_call 9; with_reducible refine (HN w1).mono ?_; rintro e w2 ⟨rfl, HD2, hb2⟩))
  have HB2 := Mine.step_below hb1 hb2
  have hs1 := hb1.size
  go_loopw [8, 10] (fun v8 v10 wr => ∃ j : Nat, j ≤ l0.length ∧ v10 = .int .i64 (j : Int) ∧ v8 = .string (cat (l0.take j)) ∧ At1 (w1.heap.size + 2) w1.heap.size wr ((gat s0 (l0.take j)).d 100000) ∧ Below w.heap.size w wr ∧ Aside0 (All j l0))
    (fun _ v10 _ => l0.length - (intOf v10).toNat)
  case atStart => exact ⟨0, by omega, rfl, rfl, HD2, HB2, ⟨fun j _ h => by omega⟩⟩
  case round =>
    obtain ⟨j, hj, rfl, rfl, HDj, HBj, HA⟩ := hrel
    by_cases hlt : j < l0.length
    · have hltz : decide ((j : Int) < (l0.length : Int)) = true := decide_eq_true (by omega)
      obtain ⟨x, rfl, hc, hxb⟩ := row_at R0 HBj hlt
      clear R0 R1
      by_cases hz : 100 < l0[j].size
      · have hzz : decide (100 < (l0[j].size : Int)) = true := decide_eq_true (by omega)
        go_wp2
        go_ret
        exact ⟨by simp [hzz], HBj⟩
      · have hzz : decide (100 < (l0[j].size : Int)) = false := decide_eq_false (by omega)
        have HA2 : All (j + 1) l0 := fun i hi hij => by
          rcases Nat.lt_or_ge i j with h | h
          · exact HA.out i hi h
          · obtain rfl : i = j := by omega
            omega
        have Q := q1 j hlt HA2
        have HA3 : Aside0 (All (j + 1) l0) := ⟨HA2⟩
        have ct := cat_take hlt
        have csz := cat_le 100 (l0.take (j + 1)) (All.mem HA2)
        rw [← ct, ByteArray.size_append, List.length_take] at csz
        have csz2 : (cat (l0.take j)).size + l0[j].size ≤ 9223372036854775807 := by omega
        clear csz
        clear q1 HA HA2
        have fin : ∀ w4, Below w1.heap.size wr w4 → Below w.heap.size w w4 := fun w4 hb => HBj.trans (hb.mono hs1)
        have hc4 : ∀ w4, Below w1.heap.size wr w4 → w4.cell? (x.add j) = some (.string l0[j]) := fun w4 hb => (hb.cell (Nat.lt_of_lt_of_le hxb hs1)).trans hc
        go_wp2_with (first
          | (go_at_call 10; with_reducible refine (Q _ _ _ HDj).mono ?_; rintro e w4 ⟨rfl, HD4, hb4⟩; have hc5 := hc4 w4 hb4))
        exact ⟨⟨j + 1, by omega, by simp, rfl, HD4, fin w4 hb4, HA3⟩, by simp [intOf]; omega⟩
    · obtain rfl : j = l0.length := by omega
      have hltz : decide ((l0.length : Int) < (l0.length : Int)) = false := decide_eq_false (by omega)
      rw [List.take_length] at HDj ⊢
      obtain ⟨t1, e1⟩ : ∃ s, s = gat s0 l0 := ⟨_, rfl⟩
      obtain ⟨a, ea⟩ : ∃ s, s = cat l0 := ⟨_, rfl⟩
      rw [← e1] at HDj
      rw [← ea]
      have G1 := gat_of l0 (s := s0) (by rw [e0])
      rw [← e1] at G1
      have hasz := cat_le 100 l0 (by have := All.mem HA.out; rwa [List.take_length] at this)
      rw [← ea] at hasz
      obtain ⟨t2, e2⟩ : ∃ s, s = if l0 = [] then t1 else t1.sy := ⟨_, rfl⟩
      have G2 : 0 ≤ t2.steps ∧ t2.steps ≤ 1000 ∧ t2.nn ≤ 1000 ∧ t2.kn ≤ 1000 ∧ t2.l = [] ∧ t2.cur = a ∧ t2.left = -1 ∧ t2.ko.getD ByteArray.empty = a ∧ (t2.ko = none → l0.length = 0) := by
        obtain ⟨h1, h2, h3, h4, h5, h6, h7, h8⟩ := G1
        have hcur : t1.cur = a := by rw [h7, e0, ← ea]; simp [S.cur]
        have ht5 : t1.left = -1 := by rw [h5, e0]
        rw [e0] at h1 h2 h3 h4 h6 h8
        simp only at h1 h2 h3 h4 h6 h8
        by_cases hn : l0 = []
        · rw [if_pos hn] at e2
          subst e2
          have haE : a = ByteArray.empty := by rw [ea, hn]; rfl
          exact ⟨by omega, by omega, by omega, by omega, by rw [h6, hn]; rfl, hcur, ht5, by rw [h1, haE]; rfl, fun _ => by rw [hn]; rfl⟩
        · rw [if_neg hn] at e2 h8
          subst e2
          refine ⟨?_, ?_, ?_, ?_, rfl, hcur, ?_, ?_, fun h => ?_⟩
          · show 0 ≤ t1.steps + 1; omega
          · show t1.steps + 1 ≤ _; omega
          · show t1.nn ≤ _; omega
          · show t1.kn + 1 ≤ _; omega
          · show (if t1.left > 0 then t1.left - 1 else t1.left) = -1
            rw [if_neg (by omega)]; exact ht5
          · show t1.no.getD ByteArray.empty = a; rw [h8, hcur]; rfl
          · have h9 : t1.no = none := h
            rw [h8] at h9; cases h9
      have QS : (decide (0 < l0.length) = false ∧ t1 = t2) ∨ (decide (0 < l0.length) = true ∧ Does 100000 11 (fun g => #[.pointer (some ⟨g, 0, none⟩), .string ⟨#[102]⟩]) (.int .i64 0) t1 t2) := by
        by_cases hn : l0 = []
        · exact .inl ⟨by rw [hn]; rfl, by rw [e2, if_pos hn]⟩
        · refine .inr ⟨decide_eq_true (List.length_pos_iff.2 hn), ?_⟩
          rw [if_neg hn] at e2
          obtain ⟨h1, h2, h3, h4, h5, h6, h7, h8⟩ := G1
          rw [if_neg hn] at h8
          have hcur : t1.cur = a := by rw [h7, e0, ← ea]; simp [S.cur]
          rw [e0] at h1 h2 h3 h4 h5 h6
          simp only at h1 h2 h3 h4 h5 h6
          exact o_sync ⟨by omega, by omega, by omega, by omega, by omega, by omega, by rw [h6]; simp; omega, by rw [hcur]; omega, by decide, by decide⟩ (by omega) h8 e2.symm
      obtain ⟨g1, g2, g3, g4, g5, g6, g7, g8, g9⟩ := G2
      have q2 : ∀ i (hi : i < l1.length), All (i + 1) l1 → Does 100000 10 (fun g => #[.pointer (some ⟨g, 0, none⟩), .string ⟨#[102]⟩, .string l1[i]]) (.int .i64 0) (gat t2 (l1.take i)) (gat t2 (l1.take (i + 1))) :=
        fun i hi ha => gat_step g7 l1 i hi hl1 ha ⟨g1, g2, g3, g4, by rw [g5]; decide, by rw [g6]; omega⟩
      have HE2 := Aside0.mk e2
      have Hea := Aside0.mk ea
      clear e2 e1 ea G1 q1 HA hltz
      have sy : ∀ w4, Below w1.heap.size wr w4 → Below w.heap.size w w4 := fun w4 hb => HBj.trans (hb.mono hs1)
      obtain ⟨t3, e3⟩ : ∃ s, s = gat t2 l1 := ⟨_, rfl⟩
      obtain ⟨t4, e4⟩ : ∃ s, s = t3.cr keep := ⟨_, rfl⟩
      have G3 := gat_of l1 g7
      rw [← e3] at G3
      obtain ⟨h1, h2, h3, h4, h5, h6, h7, h8⟩ := G3
      have hlk := P keep l1 t2.ko
      rw [g8] at hlk
      have hno : t4.no = play keep 0 t2.ko false (l1.map (·, false)) := by
        rw [e4]; show play keep 0 t3.ko false t3.l = _; rw [h1, h6, g5]; rfl
      rw [← hno] at hlk
      have h4l : t4.left ≠ 0 := by rw [e4]; show (-1 : Int) ≠ 0; decide
      have qc : (cat l1).size ≤ 2000 → Does 100000 12 (fun g => #[.pointer (some ⟨g, 0, none⟩), .int .u64 keep]) (.tuple #[]) t3 t4 := by
        intro hz
        have hcu : t3.cur.size ≤ 4000 := by rw [h7, g6, ByteArray.size_append]; omega
        exact o_crash ⟨by omega, by omega, by omega, by omega, by omega, by omega, by rw [h6, g5]; simp; omega, by omega, by decide, by decide⟩ keep hk0 hk1 (by rw [h1, h6, g5, g8, List.nil_append, sumS_map]; omega) e4.symm
      have HG := Aside0.mk hlk
      have HG9 := Aside0.mk g9
      have HE3 := Aside0.mk e3
      clear hlk hno g1 g2 g3 g4 g5 g6 g7 g8 g9 h1 h2 h3 h4 h5 h6 h7 h8 e3 e4 HE2 Hea
      rcases QS with ⟨hz, e12⟩ | ⟨hz, QS⟩
      · rw [e12] at HDj
        have HDs := HDj
        have HBs := HBj
        clear HDj HBj sy
        go_wp2
        go_loopw [9, 11] (fun v9 v11 wr => ∃ j : Nat, j ≤ l1.length ∧ v11 = .int .i64 (j : Int) ∧ v9 = .string (cat (l1.take j)) ∧ At1 (w1.heap.size + 2) w1.heap.size wr ((gat t2 (l1.take j)).d 100000) ∧ Below w.heap.size w wr ∧ Aside0 (All j l1))
          (fun _ v11 _ => l1.length - (intOf v11).toNat)
        case atStart => exact ⟨0, by omega, rfl, rfl, HDs, HBs, ⟨fun j _ h => by omega⟩⟩
        case round =>
          obtain ⟨j, hj, rfl, rfl, HDj, HBj, HA⟩ := hrel
          by_cases hlt : j < l1.length
          · have hltz : decide ((j : Int) < (l1.length : Int)) = true := decide_eq_true (by omega)
            obtain ⟨x, rfl, hc, hxb⟩ := row_at R1 HBj hlt
            clear R0 R1 HDs HBs
            by_cases hz : 100 < l1[j].size
            · have hzz : decide (100 < (l1[j].size : Int)) = true := decide_eq_true (by omega)
              go_wp2
              go_ret
              exact ⟨by simp [hzz], HBj⟩
            · have hzz : decide (100 < (l1[j].size : Int)) = false := decide_eq_false (by omega)
              have HA2 : All (j + 1) l1 := fun i hi hij => by
                rcases Nat.lt_or_ge i j with h | h
                · exact HA.out i hi h
                · obtain rfl : i = j := by omega
                  omega
              have Q := q2 j hlt HA2
              have HA3 : Aside0 (All (j + 1) l1) := ⟨HA2⟩
              have ct := cat_take hlt
              have csz := cat_le 100 (l1.take (j + 1)) (All.mem HA2)
              rw [← ct, ByteArray.size_append, List.length_take] at csz
              have csz2 : (cat (l1.take j)).size + l1[j].size ≤ 9223372036854775807 := by omega
              clear csz
              clear q2 HA HA2
              have fin : ∀ w4, Below w1.heap.size wr w4 → Below w.heap.size w w4 := fun w4 hb => HBj.trans (hb.mono hs1)
              have hc4 : ∀ w4, Below w1.heap.size wr w4 → w4.cell? (x.add j) = some (.string l1[j]) := fun w4 hb => (hb.cell (Nat.lt_of_lt_of_le hxb hs1)).trans hc
              go_wp2_with (first
                | (go_at_call 10; with_reducible refine (Q _ _ _ HDj).mono ?_; rintro e w4 ⟨rfl, HD4, hb4⟩; have hc5 := hc4 w4 hb4))
              exact ⟨⟨j + 1, by omega, by simp, rfl, HD4, fin w4 hb4, HA3⟩, by simp [intOf]; omega⟩
          · obtain rfl : j = l1.length := by omega
            have hltz : decide ((l1.length : Int) < (l1.length : Int)) = false := decide_eq_false (by omega)
            have hbz := cat_le 100 l1 (by have := All.mem HA.out; rwa [List.take_length] at this)
            rw [List.take_length] at HDj ⊢
            rw [← HE3.out] at HDj
            have QC := qc (by omega)
            have fin : ∀ w4, Below w1.heap.size wr w4 → Below w.heap.size w w4 := fun w4 hb => HBj.trans (hb.mono hs1)
            obtain ⟨b, eb⟩ : ∃ s, s = cat l1 := ⟨_, rfl⟩
            rw [← eb] at hbz ⊢
            have HG2 : Aside0 ((∀ v, t4.no = some v → Pre a v ∧ Pre v (a ++ b)) ∧ (t4.no = none → t2.ko = none)) := ⟨by rw [eb]; exact HG.out⟩
            clear qc q2 HG HE3 eb HA HDs HBs
            cases hv : t4.no with
            | none =>
              have hl0 : l0.length = 0 := HG9.out (HG2.out.2 hv)
              have QR : Tells 100000 13 (fun g => #[.pointer (some ⟨g, 0, none⟩), .string ⟨#[102]⟩]) (.tuple #[.string ByteArray.empty, .int .i64 23]) t4 := o_read_none h4l hv
              go_wp2_with (first
                | (go_at_call 12; with_reducible refine (QC _ _ _ HDj).mono ?_; rintro e w5 ⟨rfl, HD5, hb5⟩)
                | (go_at_call 13; with_reducible refine (QR _ _ _ HD5).mono ?_; rintro e w6 ⟨rfl, rfl⟩))
              go_ret
              exact ⟨by simp [hl0], fin _ hb5⟩
            | some v =>
              obtain ⟨p1, p2⟩ := HG2.out.1 v hv
              have z1 := pre_size p1
              have z2 := pre_size p2
              have z3 := pre_extract p2
              rw [ByteArray.size_append] at z2
              have z1z : decide ((a.size : Int) ≤ (v.size : Int)) = true := decide_eq_true (by omega)
              have z2z : decide ((v.size : Int) ≤ (a.size : Int) + (b.size : Int)) = true := decide_eq_true (by omega)
              have wz : wrap64 ((a.size : Int) + (b.size : Int)) = (a.size : Int) + (b.size : Int) := by unfold wrap64; omega
              have sz : a.size + b.size ≤ 9223372036854775807 := by omega
              have QR : Tells 100000 13 (fun g => #[.pointer (some ⟨g, 0, none⟩), .string ⟨#[102]⟩]) (.tuple #[.string v, .int .i64 0]) t4 := o_read h4l hv
              have Z3 := Aside0.mk z3
              clear HG2 z3 p1 p2
              go_wp2_with (first
                | (go_at_call 12; with_reducible refine (QC _ _ _ HDj).mono ?_; rintro e w5 ⟨rfl, HD5, hb5⟩)
                | (go_at_call 13; with_reducible refine (QR _ _ _ HD5).mono ?_; rintro e w6 ⟨rfl, rfl⟩))
              go_ret
              rw [Z3.out]
              exact ⟨by simp, fin _ hb5⟩
      · go_wp2_with (first
          | (go_at_call 11; with_reducible refine (QS _ _ _ HDj).mono ?_; rintro e w4 ⟨rfl, HDs, hb4⟩))
        have HBs := sy w4 hb4
        clear HDj HBj sy
        go_loopw [9, 11] (fun v9 v11 wr => ∃ j : Nat, j ≤ l1.length ∧ v11 = .int .i64 (j : Int) ∧ v9 = .string (cat (l1.take j)) ∧ At1 (w1.heap.size + 2) w1.heap.size wr ((gat t2 (l1.take j)).d 100000) ∧ Below w.heap.size w wr ∧ Aside0 (All j l1))
          (fun _ v11 _ => l1.length - (intOf v11).toNat)
        case atStart => exact ⟨0, by omega, rfl, rfl, HDs, HBs, ⟨fun j _ h => by omega⟩⟩
        case round =>
          obtain ⟨j, hj, rfl, rfl, HDj, HBj, HA⟩ := hrel
          by_cases hlt : j < l1.length
          · have hltz : decide ((j : Int) < (l1.length : Int)) = true := decide_eq_true (by omega)
            obtain ⟨x, rfl, hc, hxb⟩ := row_at R1 HBj hlt
            clear R0 R1 HDs HBs
            by_cases hz : 100 < l1[j].size
            · have hzz : decide (100 < (l1[j].size : Int)) = true := decide_eq_true (by omega)
              go_wp2
              go_ret
              exact ⟨by simp [hzz], HBj⟩
            · have hzz : decide (100 < (l1[j].size : Int)) = false := decide_eq_false (by omega)
              have HA2 : All (j + 1) l1 := fun i hi hij => by
                rcases Nat.lt_or_ge i j with h | h
                · exact HA.out i hi h
                · obtain rfl : i = j := by omega
                  omega
              have Q := q2 j hlt HA2
              have HA3 : Aside0 (All (j + 1) l1) := ⟨HA2⟩
              have ct := cat_take hlt
              have csz := cat_le 100 (l1.take (j + 1)) (All.mem HA2)
              rw [← ct, ByteArray.size_append, List.length_take] at csz
              have csz2 : (cat (l1.take j)).size + l1[j].size ≤ 9223372036854775807 := by omega
              clear csz
              clear q2 HA HA2
              have fin : ∀ w4, Below w1.heap.size wr w4 → Below w.heap.size w w4 := fun w4 hb => HBj.trans (hb.mono hs1)
              have hc4 : ∀ w4, Below w1.heap.size wr w4 → w4.cell? (x.add j) = some (.string l1[j]) := fun w4 hb => (hb.cell (Nat.lt_of_lt_of_le hxb hs1)).trans hc
              go_wp2_with (first
                | (go_at_call 10; with_reducible refine (Q _ _ _ HDj).mono ?_; rintro e w4 ⟨rfl, HD4, hb4⟩; have hc5 := hc4 w4 hb4))
              exact ⟨⟨j + 1, by omega, by simp, rfl, HD4, fin w4 hb4, HA3⟩, by simp [intOf]; omega⟩
          · obtain rfl : j = l1.length := by omega
            have hltz : decide ((l1.length : Int) < (l1.length : Int)) = false := decide_eq_false (by omega)
            have hbz := cat_le 100 l1 (by have := All.mem HA.out; rwa [List.take_length] at this)
            rw [List.take_length] at HDj ⊢
            rw [← HE3.out] at HDj
            have QC := qc (by omega)
            have fin : ∀ w4, Below w1.heap.size wr w4 → Below w.heap.size w w4 := fun w4 hb => HBj.trans (hb.mono hs1)
            obtain ⟨b, eb⟩ : ∃ s, s = cat l1 := ⟨_, rfl⟩
            rw [← eb] at hbz ⊢
            have HG2 : Aside0 ((∀ v, t4.no = some v → Pre a v ∧ Pre v (a ++ b)) ∧ (t4.no = none → t2.ko = none)) := ⟨by rw [eb]; exact HG.out⟩
            clear qc q2 HG HE3 eb HA HDs HBs
            cases hv : t4.no with
            | none =>
              have hl0 : l0.length = 0 := HG9.out (HG2.out.2 hv)
              have QR : Tells 100000 13 (fun g => #[.pointer (some ⟨g, 0, none⟩), .string ⟨#[102]⟩]) (.tuple #[.string ByteArray.empty, .int .i64 23]) t4 := o_read_none h4l hv
              go_wp2_with (first
                | (go_at_call 12; with_reducible refine (QC _ _ _ HDj).mono ?_; rintro e w5 ⟨rfl, HD5, hb5⟩)
                | (go_at_call 13; with_reducible refine (QR _ _ _ HD5).mono ?_; rintro e w6 ⟨rfl, rfl⟩))
              go_ret
              exact ⟨by simp [hl0], fin _ hb5⟩
            | some v =>
              obtain ⟨p1, p2⟩ := HG2.out.1 v hv
              have z1 := pre_size p1
              have z2 := pre_size p2
              have z3 := pre_extract p2
              rw [ByteArray.size_append] at z2
              have z1z : decide ((a.size : Int) ≤ (v.size : Int)) = true := decide_eq_true (by omega)
              have z2z : decide ((v.size : Int) ≤ (a.size : Int) + (b.size : Int)) = true := decide_eq_true (by omega)
              have wz : wrap64 ((a.size : Int) + (b.size : Int)) = (a.size : Int) + (b.size : Int) := by unfold wrap64; omega
              have sz : a.size + b.size ≤ 9223372036854775807 := by omega
              have QR : Tells 100000 13 (fun g => #[.pointer (some ⟨g, 0, none⟩), .string ⟨#[102]⟩]) (.tuple #[.string v, .int .i64 0]) t4 := o_read h4l hv
              have Z3 := Aside0.mk z3
              clear HG2 z3 p1 p2
              go_wp2_with (first
                | (go_at_call 12; with_reducible refine (QC _ _ _ HDj).mono ?_; rintro e w5 ⟨rfl, HD5, hb5⟩)
                | (go_at_call 13; with_reducible refine (QR _ _ _ HD5).mono ?_; rintro e w6 ⟨rfl, rfl⟩))
              go_ret
              rw [Z3.out]
              exact ⟨by simp, fin _ hb5⟩

theorem vedettelaw20_DiskKeeps.walk (P : vedettelaw20_DiskKeeps.Pure) (a0 : Option Addr) (len0 cap0 : Nat) (z0 : List ByteArray) (a1 : Option Addr) (len1 cap1 : Nat) (z1 : List ByteArray) (a2 : Int) (w : World)
    (w0 : (a0 = none ∧ len0 = 0 ∧ cap0 = 0 ∧ z0 = []) ∨ ∃ x, a0 = some x ∧ len0 ≤ cap0 ∧ cap0 ≤ maxLen ∧ z0.length = cap0 ∧ (∀ i, i < z0.length → w.cell? (x.add i) = some (.string (z0.getD i ByteArray.empty))) ∧ ∀ s ∈ z0, s.size ≤ maxLen) (_y0 : len0 * 16 ≤ 140737488351232)
    (w1 : (a1 = none ∧ len1 = 0 ∧ cap1 = 0 ∧ z1 = []) ∨ ∃ x, a1 = some x ∧ len1 ≤ cap1 ∧ cap1 ≤ maxLen ∧ z1.length = cap1 ∧ (∀ i, i < z1.length → w.cell? (x.add i) = some (.string (z1.getD i ByteArray.empty))) ∧ ∀ s ∈ z1, s.size ≤ maxLen) (_y1 : len1 * 16 ≤ 140737488351232)
    (w2 : (Lit.int .u64 a2).wf = true) :
    Calls Try.prog 3 #[.slice a0 len0 cap0, .slice a1 len1 cap1, .int .u64 a2] w fun e w' => e = .returned (.bool true) ∧ Below w.heap.size w w' := by
  have b2 : 0 ≤ a2 ∧ a2 ≤ 18446744073709551615 := by simp [Lit.wf, IntKind.min, IntKind.max, IntKind.bits, IntKind.signed] at w2; omega
  obtain ⟨l0, rfl, hr0, hm0, hw0, hc0⟩ := Mine.ofRowS w0
  obtain ⟨l1, rfl, hr1, hm1, hw1, hc1⟩ := Mine.ofRowS w1
  by_cases h : 20 < l0.length ∨ 20 < l1.length
  · exact early_keeps a0 a1 l0 l1 cap0 cap1 a2 h w
  · exact main_keeps P a0 a1 l0 l1 cap0 cap1 a2 (by omega) (by omega) b2.1 b2.2 w hr0 hr1

end Go.Proofs.Ytocaihmadififaa.Print
