/- SumSwapped's walk: what the code of the statement does, told by what sum's functions answer. -/
import Derived.Test.YtikncpfppeiplaaPrint2
import Derived.Test.YtikncpfppeiplaaConv
import Derived.RegionTactic
import Derived.ChangeAlike
import Derived.BigRegion
import Derived.Deep.QuietTactic
import Derived.BigQuiet
namespace Go.Proofs.Ytikncpfppeiplaa.Print
open Go.RowKit Go.Proofs.YtikncpfppeiplaaW.PrintWords Go.Proofs.YtikncpfppeiplaaW.PrintLast Go.Proofs.YtikncpfppeiplaaW.PrintMore
set_option linter.unusedVariables false
set_option linter.unusedSimpArgs false

set_option maxHeartbeats 4000000 in
set_option maxRecDepth 100000 in
theorem main_swapped (b t : ByteArray) (x y c d sb st : Int) (hsb : sum_Of.f b = some sb) (hst : sum_Of.f t = some st) (q p : Nat) (w : World) (k : Nat) (hk : vedettelaw2_known.f k = some true) (hb1 : b.size ≤ 120) (hb2 : 2 ≤ b.size)
    (hx : 0 ≤ x ∧ x < 256) (hy : 0 ≤ y ∧ y < 256) (hp : x % (b.size : Int) = (p : Int)) (hp2 : p < b.size) (hq : y % (b.size : Int) = (q : Int)) (hq2 : q < b.size) (hc : bt b p = c) (hd : bt b q = d)
    (ht : strOfNums (((bytesOf b).set p d).set q c) = t) (hcd : (c == d) = false) (hpq : decide ((p : Int) + 3 < (q : Int)) = false) (hqp : decide ((q : Int) + 3 < (p : Int)) = false) (hne : (st != sb) = true) :
    Calls Try.prog 7 #[.string b, .int .u8 x, .int .u8 y] w fun e w' => e = .returned (.bool true) ∧ Below w.heap.size w w' := by
  have Hk := Aside0.mk hk
  have kb := fun W => print_bytes (P := Try.prog) 9 33 5 Try.underlying9 Try.underlying33 Try.underlying5 b W
  have h1 : decide (120 < (b.size : Int)) = false := decide_eq_false (by omega)
  have h2 : decide ((b.size : Int) < 2) = false := decide_eq_false (by omega)
  have h6 : b.size ≤ 200 := by omega
  have hx1 := hx.1
  have hx2 := hx.2
  have hy1 := hy.1
  have hy2 := hy.2
  have hce := fun W => Mine.conv_cell W 5 b p hp2 (by omega)
  have hcf := fun W => Mine.conv_cell W 5 b q hq2 (by omega)
  rw [hc] at hce
  rw [hd] at hcf
  have hfr := fun W => Mine.conv_frozen W 5 b p hp2
  have hfs := fun W => Mine.conv_frozen W 5 b q hq2
  have Hsb := Aside0.mk hsb
  have Hst := Aside0.mk hst
  have HR := fun W => Aside0.mk (Mine.reads_set (Mine.reads_set (bytes_reads W 5 b (by omega)) p hp2 d) q hq2 c)
  have Ht := Aside0.mk ht
  have hbp := Aside0.mk hc
  have hbq := Aside0.mk hd
  clear hk hx hy hc hd hsb hst ht
  have HB := Aside0.mk (Below.refl w.heap.size w)
  go_enter Try.func7, Try.ntmps7
  go_wp2_with (first | (go_at_call 9; refine (vedettelaw2_known.calls k true _ Hk.out).mono ?_; rintro e w1 ⟨rfl, hb⟩; have HB1 := Aside0.mk (Mine.step_below HB.out hb); clear hb HB))
  go_quiet (fail)
  go_wp2
  have c1 : (Lib.bytesWorld (w1.drewN nq) 5 b).cell? ⟨w1.heap.size, p, none⟩ = some (.int .u8 c) := hce (w1.drewN nq)
  have c2 : (Lib.bytesWorld (w1.drewN nq) 5 b).cell? ⟨w1.heap.size, q, none⟩ = some (.int .u8 d) := hcf (w1.drewN nq)
  have f1 : (Lib.bytesWorld (w1.drewN nq) 5 b).frozen? ⟨w1.heap.size, p, none⟩ = false := hfr (w1.drewN nq)
  have f2 : (Lib.bytesWorld (w1.drewN nq) 5 b).frozen? ⟨w1.heap.size, q, none⟩ = false := hfs (w1.drewN nq)
  clear hce hcf hfr hfs kb
  have HR1 := HR (w1.drewN nq)
  have HB2 := Aside0.mk (Mine.below_conv (pw_below_drewN HB1.out nq) HB1.out.size 5 b p (.int .u8 d))
  have HB4 : Aside0 (Below w.heap.size w (((Lib.bytesWorld (w1.drewN nq) 5 b).setCell ⟨w1.heap.size, p, none⟩ (.int .u8 d)).setCell ⟨w1.heap.size, q, none⟩ (.int .u8 c))) := ⟨HB2.out.setCell HB1.out.size _⟩
  clear HR HB1 HB2
  rw [hp, hq]
  have HR2 : Aside0 (ReadsInt (((Lib.bytesWorld (w1.drewN nq) 5 b).setCell ⟨w1.heap.size, p, none⟩ (.int .u8 d)).setCell ⟨w1.heap.size, q, none⟩ (.int .u8 c)) .u8 (some ⟨w1.heap.size, 0, none⟩) b.size (((bytesOf b).set p d).set q c)) := HR1
  clear HR1
  generalize Lib.bytesWorld (w1.drewN nq) 5 b = W2 at *
  obtain ⟨v1, c3⟩ := cell?_setCell_some (w := W2) (p := ⟨w1.heap.size, p, none⟩) (x := .int .u8 d) (q := ⟨w1.heap.size, q, none⟩) c2
  go_region
  go_wp2
  obtain ⟨W3, hW3⟩ : ∃ W3, W3 = ((W2.setCell ⟨w1.heap.size, p, none⟩ (.int .u8 d)).setCell ⟨w1.heap.size, q, none⟩ (.int .u8 c)).drew := ⟨_, rfl⟩
  rw [← hW3]
  have HB5 : Aside0 (Below w.heap.size w W3) := ⟨by rw [hW3]; exact below_drew1 HB4.out⟩
  have HR3 : Aside0 (ReadsInt W3 .u8 (some ⟨w1.heap.size, 0, none⟩) b.size (((bytesOf b).set p d).set q c)) := ⟨by rw [hW3]; exact HR2.out⟩
  clear HB4 HR2 c1 c2 c3 f1 f2 hW3
  have kp : (convert 33 9 (.slice (some ⟨w1.heap.size, 0, none⟩) b.size (grownCap (w1.drewN nq) b.size 0 5))).run Try.prog W3.drew = .ok (.string t) W3.drew := by
    rw [← Ht.out]
    exact string_of_reads Try.underlying33 Try.underlying5 Try.underlying9 (show ReadsInt W3.drew .u8 (some ⟨w1.heap.size, 0, none⟩) b.size _ from HR3.out)
  have hi1 : ∀ h : p < b.size, ((b[p]'h).toNat : Int) = c := fun h => by rw [← hbp.out]; exact bt_at b (p : Int) h
  have hi2 : ∀ h : q < b.size, ((b[q]'h).toNat : Int) = d := fun h => by rw [← hbq.out]; exact bt_at b (q : Int) h
  have hpq2 : decide (wrap64 ((p : Int) + 3) < (q : Int)) = false := by rw [show wrap64 ((p : Int) + 3) = (p : Int) + 3 from by unfold wrap64; omega]; exact hpq
  have hqp2 : decide (wrap64 ((q : Int) + 3) < (p : Int)) = false := by rw [show wrap64 ((q : Int) + 3) = (q : Int) + 3 from by unfold wrap64; omega]; exact hqp
  have HB6 := Aside0.mk (below_drew1 HB5.out)
  clear HB5 HR3 hbp hbq Ht
  refine start_ (n := 28) (S := fun w' => (convert 33 9 (.slice (some ⟨w1.heap.size, 0, none⟩) b.size (grownCap (w1.drewN nq) b.size 0 5))).run Try.prog w' = .ok (.string t) w') (ds := [22, 24]) #[false, false, false, false, false, false, false, false, false, false, false, false, false, false, false, false, false, false, false, false, false, false, false, false, false, false, false, false] (by kernel_rfl) rfl rfl kp (fun hHeld => ?_)
  clear kp
  generalize W3.drew = w36 at HB6 hHeld ⊢
  refine pure_ (i := 0) (N := some 46) (v := ?_) (a' := ?_) #[true, false, false, false, false, false, false, false, false, false, false, false, false, false, false, false, false, false, false, false, false, false, false, false, false, false, false, false] rfl rfl (by kernel_rfl) (fun _ _ _ h => h) (Or.inl ⟨by rfl, ?_⟩) ?_ ?_
  rotate_left
  · intro w'
    go_simp
    with_reducible rfl
  rotate_left
  · simp only [Act.put, List.setIfInBounds_toArray, List.set_cons_zero, List.set_cons_succ, i64_w, i32_w]
    rfl
  refine pure_ (i := 1) (N := some 47) (v := ?_) (a' := ?_) #[true, true, false, false, false, false, false, false, false, false, false, false, false, false, false, false, false, false, false, false, false, false, false, false, false, false, false, false] rfl rfl (by kernel_rfl) (fun _ _ _ h => h) (Or.inl ⟨by rfl, ?_⟩) ?_ ?_
  rotate_left
  · intro w'
    go_simp
    with_reducible rfl
  rotate_left
  · simp only [Act.put, List.setIfInBounds_toArray, List.set_cons_zero, List.set_cons_succ, i64_w, i32_w]
    rfl
  refine pure_ (i := 2) (N := some 48) (v := ?_) (a' := ?_) #[true, true, true, false, false, false, false, false, false, false, false, false, false, false, false, false, false, false, false, false, false, false, false, false, false, false, false, false] rfl rfl (by kernel_rfl) (fun _ _ _ h => h) (Or.inl ⟨by rfl, ?_⟩) ?_ ?_
  rotate_left
  · intro w'
    go_simp
    with_reducible rfl
  rotate_left
  · simp only [Act.put, List.setIfInBounds_toArray, List.set_cons_zero, List.set_cons_succ, i64_w, i32_w]
    rfl
  refine pure_ (i := 3) (N := some 49) (v := ?_) (a' := ?_) #[true, true, true, true, false, false, false, false, false, false, false, false, false, false, false, false, false, false, false, false, false, false, false, false, false, false, false, false] rfl rfl (by kernel_rfl) (fun _ _ _ h => h) (Or.inl ⟨by rfl, ?_⟩) ?_ ?_
  rotate_left
  · intro w'
    go_simp
    with_reducible rfl
  rotate_left
  · simp only [Act.put, List.setIfInBounds_toArray, List.set_cons_zero, List.set_cons_succ, i64_w, i32_w]
    rfl
  refine pure_ (i := 4) (N := some 50) (v := ?_) (a' := ?_) #[true, true, true, true, true, false, false, false, false, false, false, false, false, false, false, false, false, false, false, false, false, false, false, false, false, false, false, false] rfl rfl (by kernel_rfl) (fun _ _ _ h => h) (Or.inl ⟨by rfl, ?_⟩) ?_ ?_
  rotate_left
  · intro w'
    go_simp
    with_reducible rfl
  rotate_left
  · simp only [Act.put, List.setIfInBounds_toArray, List.set_cons_zero, List.set_cons_succ, i64_w, i32_w]
    rfl
  refine pure_ (i := 5) (N := some 51) (v := ?_) (a' := ?_) #[true, true, true, true, true, true, false, false, false, false, false, false, false, false, false, false, false, false, false, false, false, false, false, false, false, false, false, false] rfl rfl (by kernel_rfl) (fun _ _ _ h => h) (Or.inl ⟨by rfl, ?_⟩) ?_ ?_
  rotate_left
  · intro w'
    go_simp
    with_reducible rfl
  rotate_left
  · simp only [Act.put, List.setIfInBounds_toArray, List.set_cons_zero, List.set_cons_succ, i64_w, i32_w]
    rfl
  refine pure_ (i := 6) (N := some 52) (v := ?_) (a' := ?_) #[true, true, true, true, true, true, true, false, false, false, false, false, false, false, false, false, false, false, false, false, false, false, false, false, false, false, false, false] rfl rfl (by kernel_rfl) (fun _ _ _ h => h) (Or.inl ⟨by rfl, ?_⟩) ?_ ?_
  rotate_left
  · intro w'
    go_simp
    with_reducible rfl
  rotate_left
  · simp only [Act.put, List.setIfInBounds_toArray, List.set_cons_zero, List.set_cons_succ, i64_w, i32_w]
    rfl
  refine pure_ (i := 7) (N := some 53) (v := ?_) (a' := ?_) #[true, true, true, true, true, true, true, true, false, false, false, false, false, false, false, false, false, false, false, false, false, false, false, false, false, false, false, false] rfl rfl (by kernel_rfl) (fun _ _ _ h => h) (Or.inl ⟨by rfl, ?_⟩) ?_ ?_
  rotate_left
  · intro w'
    go_simp
    with_reducible rfl
  rotate_left
  · simp only [Act.put, List.setIfInBounds_toArray, List.set_cons_zero, List.set_cons_succ, i64_w, i32_w]
    rfl
  refine pure_ (i := 8) (N := some 54) (v := ?_) (a' := ?_) #[true, true, true, true, true, true, true, true, true, false, false, false, false, false, false, false, false, false, false, false, false, false, false, false, false, false, false, false] rfl rfl (by kernel_rfl) (fun _ _ _ h => h) (Or.inl ⟨by rfl, ?_⟩) ?_ ?_
  rotate_left
  · intro w'
    go_simp
    with_reducible rfl
  rotate_left
  · simp only [Act.put, List.setIfInBounds_toArray, List.set_cons_zero, List.set_cons_succ, i64_w, i32_w]
    rfl
  refine pure_ (i := 9) (N := some 55) (v := ?_) (a' := ?_) #[true, true, true, true, true, true, true, true, true, true, false, false, false, false, false, false, false, false, false, false, false, false, false, false, false, false, false, false] rfl rfl (by kernel_rfl) (fun _ _ _ h => h) (Or.inl ⟨by rfl, ?_⟩) ?_ ?_
  rotate_left
  · intro w'
    go_simp
    with_reducible rfl
  rotate_left
  · simp only [Act.put, List.setIfInBounds_toArray, List.set_cons_zero, List.set_cons_succ, i64_w, i32_w]
    rfl
  refine pure_ (i := 10) (N := some 56) (v := ?_) (a' := ?_) #[true, true, true, true, true, true, true, true, true, true, true, false, false, false, false, false, false, false, false, false, false, false, false, false, false, false, false, false] rfl rfl (by kernel_rfl) (fun _ _ _ h => h) (Or.inl ⟨by rfl, ?_⟩) ?_ ?_
  rotate_left
  · intro w'
    go_simp
    with_reducible rfl
  rotate_left
  · simp only [Act.put, List.setIfInBounds_toArray, List.set_cons_zero, List.set_cons_succ, i64_w, i32_w]
    rfl
  refine pure_ (i := 11) (N := some 57) (v := ?_) (a' := ?_) #[true, true, true, true, true, true, true, true, true, true, true, true, false, false, false, false, false, false, false, false, false, false, false, false, false, false, false, false] rfl rfl (by kernel_rfl) (fun _ _ _ h => h) (Or.inl ⟨by rfl, ?_⟩) ?_ ?_
  rotate_left
  · intro w'
    go_simp
    with_reducible rfl
  rotate_left
  · simp only [Act.put, List.setIfInBounds_toArray, List.set_cons_zero, List.set_cons_succ, i64_w, i32_w]
    rfl
  refine pure_ (i := 12) (N := some 58) (v := ?_) (a' := ?_) #[true, true, true, true, true, true, true, true, true, true, true, true, true, false, false, false, false, false, false, false, false, false, false, false, false, false, false, false] rfl rfl (by kernel_rfl) (fun _ _ _ h => h) (Or.inl ⟨by rfl, ?_⟩) ?_ ?_
  rotate_left
  · intro w'
    go_simp
    with_reducible rfl
  rotate_left
  · simp only [Act.put, List.setIfInBounds_toArray, List.set_cons_zero, List.set_cons_succ, i64_w, i32_w]
    rfl
  refine pure_ (i := 13) (N := some 59) (v := ?_) (a' := ?_) #[true, true, true, true, true, true, true, true, true, true, true, true, true, true, false, false, false, false, false, false, false, false, false, false, false, false, false, false] rfl rfl (by kernel_rfl) (fun _ _ _ h => h) (Or.inl ⟨by rfl, ?_⟩) ?_ ?_
  rotate_left
  · intro w'
    go_simp
    with_reducible rfl
  rotate_left
  · simp only [Act.put, List.setIfInBounds_toArray, List.set_cons_zero, List.set_cons_succ, i64_w, i32_w]
    rfl
  refine pure_ (i := 14) (N := some 60) (v := ?_) (a' := ?_) #[true, true, true, true, true, true, true, true, true, true, true, true, true, true, true, false, false, false, false, false, false, false, false, false, false, false, false, false] rfl rfl (by kernel_rfl) (fun _ _ _ h => h) (Or.inl ⟨by rfl, ?_⟩) ?_ ?_
  rotate_left
  · intro w'
    go_simp
    with_reducible rfl
  rotate_left
  · simp only [Act.put, List.setIfInBounds_toArray, List.set_cons_zero, List.set_cons_succ, i64_w, i32_w]
    rfl
  refine pure_ (i := 15) (N := some 61) (v := ?_) (a' := ?_) #[true, true, true, true, true, true, true, true, true, true, true, true, true, true, true, true, false, false, false, false, false, false, false, false, false, false, false, false] rfl rfl (by kernel_rfl) (fun _ _ _ h => h) (Or.inl ⟨by rfl, ?_⟩) ?_ ?_
  rotate_left
  · intro w'
    go_simp
    with_reducible rfl
  rotate_left
  · simp only [Act.put, List.setIfInBounds_toArray, List.set_cons_zero, List.set_cons_succ, i64_w, i32_w]
    rfl
  refine pure_ (i := 16) (N := some 62) (v := ?_) (a' := ?_) #[true, true, true, true, true, true, true, true, true, true, true, true, true, true, true, true, true, false, false, false, false, false, false, false, false, false, false, false] rfl rfl (by kernel_rfl) (fun _ _ _ h => h) (Or.inl ⟨by rfl, ?_⟩) ?_ ?_
  rotate_left
  · intro w'
    go_simp
    with_reducible rfl
  rotate_left
  · simp only [Act.put, List.setIfInBounds_toArray, List.set_cons_zero, List.set_cons_succ, i64_w, i32_w]
    rfl
  refine pure_ (i := 17) (N := some 63) (v := ?_) (a' := ?_) #[true, true, true, true, true, true, true, true, true, true, true, true, true, true, true, true, true, true, false, false, false, false, false, false, false, false, false, false] rfl rfl (by kernel_rfl) (fun _ _ _ h => h) (Or.inl ⟨by rfl, ?_⟩) ?_ ?_
  rotate_left
  · intro w'
    go_simp
    with_reducible rfl
  rotate_left
  · simp only [Act.put, List.setIfInBounds_toArray, List.set_cons_zero, List.set_cons_succ, i64_w, i32_w]
    rfl
  refine pure_ (i := 18) (N := some 64) (v := ?_) (a' := ?_) #[true, true, true, true, true, true, true, true, true, true, true, true, true, true, true, true, true, true, true, false, false, false, false, false, false, false, false, false] rfl rfl (by kernel_rfl) (fun _ _ _ h => h) (Or.inl ⟨by rfl, ?_⟩) ?_ ?_
  rotate_left
  · intro w'
    go_simp
    with_reducible rfl
  rotate_left
  · simp only [Act.put, List.setIfInBounds_toArray, List.set_cons_zero, List.set_cons_succ, i64_w, i32_w]
    rfl
  refine pure_ (i := 19) (N := some 65) (v := ?_) (a' := ?_) #[true, true, true, true, true, true, true, true, true, true, true, true, true, true, true, true, true, true, true, true, false, false, false, false, false, false, false, false] rfl rfl (by kernel_rfl) (fun _ _ _ h => h) (Or.inl ⟨by rfl, ?_⟩) ?_ ?_
  rotate_left
  · intro w'
    go_simp
    with_reducible rfl
  rotate_left
  · simp only [Act.put, List.setIfInBounds_toArray, List.set_cons_zero, List.set_cons_succ, i64_w, i32_w]
    rfl
  refine pure_ (i := 20) (N := some 66) (v := ?_) (a' := ?_) #[true, true, true, true, true, true, true, true, true, true, true, true, true, true, true, true, true, true, true, true, true, false, false, false, false, false, false, false] rfl rfl (by kernel_rfl) (fun _ _ _ h => h) (Or.inl ⟨by rfl, ?_⟩) ?_ ?_
  rotate_left
  · intro w'
    go_simp
    with_reducible rfl
  rotate_left
  · simp only [Act.put, List.setIfInBounds_toArray, List.set_cons_zero, List.set_cons_succ, i64_w, i32_w]
    rfl
  refine pure_ (i := 23) (N := some 69) (v := ?_) (a' := ?_) #[true, true, true, true, true, true, true, true, true, true, true, true, true, true, true, true, true, true, true, true, true, false, false, true, false, false, false, false] rfl rfl (by kernel_rfl) (fun _ _ _ h => h) (Or.inl ⟨by rfl, ?_⟩) ?_ ?_
  rotate_left
  · intro w'
    go_simp
    with_reducible rfl
  rotate_left
  · simp only [Act.put, List.setIfInBounds_toArray, List.set_cons_zero, List.set_cons_succ, i64_w, i32_w]
    rfl
  refine take_ (i := 21) (N := some 67) (v := ?_) (a' := ?_) #[true, true, true, true, true, true, true, true, true, true, true, true, true, true, true, true, true, true, true, true, true, true, false, true, false, false, false, false] rfl rfl (by kernel_rfl) (fun _ _ _ h => h) (Or.inl ⟨by rfl, ?_⟩) hHeld ?_ ?_
  rotate_left
  · intro w' s0
    go_simp
    with_reducible rfl
  rotate_left
  · simp only [Act.put, List.setIfInBounds_toArray, List.set_cons_zero, List.set_cons_succ, i64_w, i32_w]
    rfl
  refine last_ (i := 22) (N := some 68) #[true, true, true, true, true, true, true, true, true, true, true, true, true, true, true, true, true, true, true, true, true, true, true, true, false, false, false, false] rfl rfl (by kernel_rfl) (by decide) (fun K hK => ?_)
  refine goes_ Try.func12 (by kernel_rfl) rfl #[.string t] (by rfl) rfl rfl (by (try simp only [List.map_toArray, List.map_cons, List.map_nil]); first | done | rfl) ?_
  with_reducible refine (sum_Of.calls t st _ Hst.out).mono ?_
  rintro e w62 ⟨rfl, hb⟩
  refine ⟨_, rfl, ?_⟩
  have HB7 := Aside0.mk (Mine.step_below HB6.out hb)
  clear hb HB6
  refine hK.out _ _ ?_
  clear hK K
  refine norm_ (a' := ?_) ?_ ?_
  rotate_left
  · show Act.put _ (some 68) _ = _
    simp only [Act.put, List.setIfInBounds_toArray, List.set_cons_zero, List.set_cons_succ, i64_w, i32_w]
    rfl
  refine last_ (i := 24) (N := some 70) #[true, true, true, true, true, true, true, true, true, true, true, true, true, true, true, true, true, true, true, true, true, true, true, true, true, false, false, false] rfl rfl (by kernel_rfl) (by decide) (fun K hK => ?_)
  refine goes_ Try.func12 (by kernel_rfl) rfl #[.string b] (by rfl) rfl rfl (by (try simp only [List.map_toArray, List.map_cons, List.map_nil]); first | done | rfl) ?_
  with_reducible refine (sum_Of.calls b sb _ Hsb.out).mono ?_
  rintro e w64 ⟨rfl, hb⟩
  refine ⟨_, rfl, ?_⟩
  have HB8 := Aside0.mk (Mine.step_below HB7.out hb)
  clear hb HB7
  refine hK.out _ _ ?_
  clear hK K
  refine norm_ (a' := ?_) ?_ ?_
  rotate_left
  · show Act.put _ (some 70) _ = _
    simp only [Act.put, List.setIfInBounds_toArray, List.set_cons_zero, List.set_cons_succ, i64_w, i32_w]
    rfl
  refine pure_ (i := 25) (N := some 71) (v := ?_) (a' := ?_) #[true, true, true, true, true, true, true, true, true, true, true, true, true, true, true, true, true, true, true, true, true, true, true, true, true, true, false, false] rfl rfl (by kernel_rfl) (fun _ _ _ h => h) (Or.inl ⟨by rfl, ?_⟩) ?_ ?_
  rotate_left
  · intro w'
    go_simp
    with_reducible rfl
  rotate_left
  · simp only [Act.put, List.setIfInBounds_toArray, List.set_cons_zero, List.set_cons_succ, i64_w, i32_w]
    rfl
  refine pure_ (i := 26) (N := some 72) (v := ?_) (a' := ?_) #[true, true, true, true, true, true, true, true, true, true, true, true, true, true, true, true, true, true, true, true, true, true, true, true, true, true, true, false] rfl rfl (by kernel_rfl) (fun _ _ _ h => h) (Or.inl ⟨by rfl, ?_⟩) ?_ ?_
  rotate_left
  · intro w'
    go_simp
    with_reducible rfl
  rotate_left
  · simp only [Act.put, List.setIfInBounds_toArray, List.set_cons_zero, List.set_cons_succ, i64_w, i32_w]
    rfl
  refine pure_ (i := 27) (N := some 6) (v := ?_) (a' := ?_) #[true, true, true, true, true, true, true, true, true, true, true, true, true, true, true, true, true, true, true, true, true, true, true, true, true, true, true, true] rfl rfl (by kernel_rfl) (fun _ _ _ h => h) (Or.inl ⟨by rfl, ?_⟩) ?_ ?_
  rotate_left
  · intro w'
    go_simp
    with_reducible rfl
  rotate_left
  · simp only [Act.put, List.setIfInBounds_toArray, List.set_cons_zero, List.set_cons_succ, i64_w, i32_w]
    rfl
  refine done_ (by kernel_rfl) ?_
  go_wp2
  go_ret
  exact ⟨rfl, HB8.out⟩
set_option maxHeartbeats 4000000 in
set_option maxRecDepth 100000 in
theorem far_swapped (b : ByteArray) (x y c d : Int) (q p : Nat) (w : World) (k : Nat) (hk : vedettelaw2_known.f k = some true) (hb1 : b.size ≤ 120) (hb2 : 2 ≤ b.size)
    (hx : 0 ≤ x ∧ x < 256) (hy : 0 ≤ y ∧ y < 256) (hp : x % (b.size : Int) = (p : Int)) (hp2 : p < b.size) (hq : y % (b.size : Int) = (q : Int)) (hq2 : q < b.size) (hc : bt b p = c) (hd : bt b q = d)
    (hfar : (c == d) = true ∨ ((c == d) = false ∧ decide ((p : Int) + 3 < (q : Int)) = true) ∨ ((c == d) = false ∧ decide ((p : Int) + 3 < (q : Int)) = false ∧ decide ((q : Int) + 3 < (p : Int)) = true)) :
    Calls Try.prog 7 #[.string b, .int .u8 x, .int .u8 y] w fun e w' => e = .returned (.bool true) ∧ Below w.heap.size w w' := by
  have Hk := Aside0.mk hk
  have kb := fun W => print_bytes (P := Try.prog) 9 33 5 Try.underlying9 Try.underlying33 Try.underlying5 b W
  have h1 : decide (120 < (b.size : Int)) = false := decide_eq_false (by omega)
  have h2 : decide ((b.size : Int) < 2) = false := decide_eq_false (by omega)
  have h6 : b.size ≤ 200 := by omega
  have hx1 := hx.1
  have hx2 := hx.2
  have hy1 := hy.1
  have hy2 := hy.2
  have hce := fun W => Mine.conv_cell W 5 b p hp2 (by omega)
  have hcf := fun W => Mine.conv_cell W 5 b q hq2 (by omega)
  rw [hc] at hce
  rw [hd] at hcf
  have hfr := fun W => Mine.conv_frozen W 5 b p hp2
  have hfs := fun W => Mine.conv_frozen W 5 b q hq2
  have hbp := Aside0.mk hc
  have hbq := Aside0.mk hd
  clear hk hx hy hc hd
  have HB := Aside0.mk (Below.refl w.heap.size w)
  have Hfar := Aside0.mk hfar
  clear hfar
  go_enter Try.func7, Try.ntmps7
  go_wp2_with (first | (go_at_call 9; refine (vedettelaw2_known.calls k true _ Hk.out).mono ?_; rintro e w1 ⟨rfl, hb⟩; have HB1 := Aside0.mk (Mine.step_below HB.out hb); clear hb HB))
  go_quiet (fail)
  go_wp2
  have c1 : (Lib.bytesWorld (w1.drewN nq) 5 b).cell? ⟨w1.heap.size, p, none⟩ = some (.int .u8 c) := hce (w1.drewN nq)
  have c2 : (Lib.bytesWorld (w1.drewN nq) 5 b).cell? ⟨w1.heap.size, q, none⟩ = some (.int .u8 d) := hcf (w1.drewN nq)
  have f1 : (Lib.bytesWorld (w1.drewN nq) 5 b).frozen? ⟨w1.heap.size, p, none⟩ = false := hfr (w1.drewN nq)
  have f2 : (Lib.bytesWorld (w1.drewN nq) 5 b).frozen? ⟨w1.heap.size, q, none⟩ = false := hfs (w1.drewN nq)
  clear hce hcf hfr hfs kb
  have HB2 := Aside0.mk (Mine.below_conv (pw_below_drewN HB1.out nq) HB1.out.size 5 b p (.int .u8 d))
  have HB4 : Aside0 (Below w.heap.size w (((Lib.bytesWorld (w1.drewN nq) 5 b).setCell ⟨w1.heap.size, p, none⟩ (.int .u8 d)).setCell ⟨w1.heap.size, q, none⟩ (.int .u8 c))) := ⟨HB2.out.setCell HB1.out.size _⟩
  clear HB1 HB2
  rw [hp, hq]
  generalize Lib.bytesWorld (w1.drewN nq) 5 b = W2 at *
  obtain ⟨v1, c3⟩ := cell?_setCell_some (w := W2) (p := ⟨w1.heap.size, p, none⟩) (x := .int .u8 d) (q := ⟨w1.heap.size, q, none⟩) c2
  go_region
  go_wp2
  obtain ⟨W3, hW3⟩ : ∃ W3, W3 = ((W2.setCell ⟨w1.heap.size, p, none⟩ (.int .u8 d)).setCell ⟨w1.heap.size, q, none⟩ (.int .u8 c)).drew := ⟨_, rfl⟩
  rw [← hW3]
  have HB5 : Aside0 (Below w.heap.size w W3) := ⟨by rw [hW3]; exact below_drew1 HB4.out⟩
  clear HB4 c1 c2 c3 f1 f2 hW3
  have hi1 : ∀ h : p < b.size, ((b[p]'h).toNat : Int) = c := fun h => by rw [← hbp.out]; exact bt_at b (p : Int) h
  have hi2 : ∀ h : q < b.size, ((b[q]'h).toNat : Int) = d := fun h => by rw [← hbq.out]; exact bt_at b (q : Int) h
  clear hbp hbq
  have hw1 : wrap64 ((p : Int) + 3) = (p : Int) + 3 := by unfold wrap64; omega
  have hw2 : wrap64 ((q : Int) + 3) = (q : Int) + 3 := by unfold wrap64; omega
  rcases Hfar.out with h3 | ⟨h3, h4⟩ | ⟨h3, h4, h5⟩
  · go_quiet (fail)
    go_wp2
    go_ret
    exact ⟨rfl, pw_below_drewN HB5.out _⟩
  · go_quiet (fail)
    go_wp2
    go_ret
    exact ⟨rfl, pw_below_drewN HB5.out _⟩
  · go_quiet (fail)
    go_wp2
    go_ret
    exact ⟨rfl, pw_below_drewN HB5.out _⟩
theorem early_swapped (b : ByteArray) (x y : Int) (w : World) (k : Nat) (hk : vedettelaw2_known.f k = some true) (hb : b.size < 2 ∨ 120 < b.size) :
    Calls Try.prog 7 #[.string b, .int .u8 x, .int .u8 y] w fun e w' => e = .returned (.bool true) ∧ Below w.heap.size w w' := by
  have Hk := Aside0.mk hk
  clear hk
  have h2 : (decide ((b.size : Int) < 2) = true) ∨ (decide ((b.size : Int) < 2) = false ∧ decide (120 < (b.size : Int)) = true) := by
    by_cases h : b.size < 2
    · exact .inl (decide_eq_true (by omega))
    · exact .inr ⟨decide_eq_false (by omega), decide_eq_true (by omega)⟩
  clear hb
  rcases h2 with h2 | ⟨h2, h3⟩
  all_goals
    go_enter Try.func7, Try.ntmps7
    go_wp2_with (go_at_call 9; refine (vedettelaw2_known.calls k true _ Hk.out).mono ?_; rintro e w1 ⟨rfl, hb⟩)
    go_ret
    exact ⟨rfl, hb⟩

/-- What is to be shown of plain numbers and texts. -/
def vedettelaw2_SumSwapped.Known : Prop := ∃ k, vedettelaw2_known.f k = some true
def vedettelaw2_SumSwapped.Pure : Prop := vedettelaw2_SumSwapped.Known ∧ ∀ (b : ByteArray) (p q : Nat), b.size ≤ 120 → p < b.size → q < b.size → bt b p ≠ bt b q → p ≤ q + 3 → q ≤ p + 3 →
  ∃ (t : ByteArray) (sb st : Int), strOfNums (((bytesOf b).set p (bt b q)).set q (bt b p)) = t ∧ sum_Of.f b = some sb ∧ sum_Of.f t = some st ∧ st ≠ sb
theorem vedettelaw2_SumSwapped.walk (P : vedettelaw2_SumSwapped.Pure) (a0 : ByteArray) (a1 a2 : Int) (w : World) (_w0 : a0.size ≤ 140737488351232) (w1 : (Lit.int .u8 a1).wf = true) (w2 : (Lit.int .u8 a2).wf = true) :
    Calls Try.prog 7 #[.string a0, .int .u8 a1, .int .u8 a2] w fun e w' => e = .returned (.bool true) ∧ Below w.heap.size w w' := by
  obtain ⟨⟨k, hk⟩, P⟩ := P
  have b1 : 0 ≤ a1 ∧ a1 < 256 := by simp [Lit.wf, IntKind.min, IntKind.max, IntKind.bits, IntKind.signed] at w1; omega
  have b2 : 0 ≤ a2 ∧ a2 < 256 := by simp [Lit.wf, IntKind.min, IntKind.max, IntKind.bits, IntKind.signed] at w2; omega
  by_cases h : a0.size < 2 ∨ 120 < a0.size
  · exact early_swapped a0 a1 a2 w k hk h
  · have h0 : 0 < (a0.size : Int) := by omega
    obtain ⟨p, hp, hp2⟩ : ∃ p : Nat, a1 % (a0.size : Int) = (p : Int) ∧ p < a0.size := by
      have h1 := Int.emod_nonneg a1 (Int.ne_of_gt h0)
      have h2 := Int.emod_lt_of_pos a1 h0
      exact ⟨(a1 % (a0.size : Int)).toNat, by omega, by omega⟩
    obtain ⟨q, hq, hq2⟩ : ∃ q : Nat, a2 % (a0.size : Int) = (q : Int) ∧ q < a0.size := by
      have h1 := Int.emod_nonneg a2 (Int.ne_of_gt h0)
      have h2 := Int.emod_lt_of_pos a2 h0
      exact ⟨(a2 % (a0.size : Int)).toNat, by omega, by omega⟩
    have hb1 : a0.size ≤ 120 := by omega
    have hb2 : 2 ≤ a0.size := by omega
    by_cases hcd : bt a0 p = bt a0 q
    · exact far_swapped a0 a1 a2 _ _ q p w k hk hb1 hb2 b1 b2 hp hp2 hq hq2 rfl rfl (.inl (beq_iff_eq.mpr hcd))
    · have hne : (bt a0 p == bt a0 q) = false := beq_eq_false_iff_ne.mpr hcd
      by_cases h1 : p + 3 < q
      · exact far_swapped a0 a1 a2 _ _ q p w k hk hb1 hb2 b1 b2 hp hp2 hq hq2 rfl rfl (.inr (.inl ⟨hne, decide_eq_true (by omega)⟩))
      · by_cases h2 : q + 3 < p
        · exact far_swapped a0 a1 a2 _ _ q p w k hk hb1 hb2 b1 b2 hp hp2 hq hq2 rfl rfl (.inr (.inr ⟨hne, decide_eq_false (by omega), decide_eq_true (by omega)⟩))
        · obtain ⟨t, sb, st, ht, hsb, hst, hn⟩ := P a0 p q hb1 hp2 hq2 hcd (by omega) (by omega)
          exact main_swapped a0 t a1 a2 _ _ sb st hsb hst q p w k hk hb1 hb2 b1 b2 hp hp2 hq hq2 rfl rfl ht hne (decide_eq_false (by omega)) (decide_eq_false (by omega)) (bne_iff_ne.mpr hn)
end Go.Proofs.Ytikncpfppeiplaa.Print
