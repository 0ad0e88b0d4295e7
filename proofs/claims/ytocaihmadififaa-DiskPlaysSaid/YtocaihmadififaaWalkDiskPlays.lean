/- DiskPlays' walk: what the code of the statement does, told by what the two disks' functions answer. -/
import Derived.Test.YtocaihmadififaaRefJ
import Derived.Test.YtocaihmadififaaDiskH
import Derived.Test.YtocaihmadififaaMine
import Derived.Test.YtocaihmadififaaProg
import Derived.Below
import Derived.Lib.BufferMore
import Derived.OwnWalk
import Derived.Laws.MakeOwn
import Derived.Maps.AppendAt
import Derived.IntWalk
import Derived.MapKept
import Derived.Lib.SliceRun
import Derived.Laws.Externs
import Derived.Shelf.Abstract
import Derived.Deep.LoopGhost
import Derived.Deep.RegionLaw
import Derived.Deep.RegionWith
import Derived.RegionTactic
import Derived.ChangeAlike
import Derived.BigRegion
import Derived.StringKeys
import Derived.Maps.RangeWalk
import Derived.Tactics
import Derived.WalkKit
import Derived.KernelRfl
import Derived.RowKit3
import Derived.RowKit
import Derived.WalkMore
import Derived.Deep.QuietTactic
import Derived.BigQuiet
import Derived.WideLaws
import Derived.Deep.DeepCutAuto
import Derived.OrdersHeld
import Derived.Test.YtocaihmadififaaWWords
import Derived.Test.YtocaihmadififaaWLast
import Derived.Test.YtocaihmadififaaWFour
import Derived.Test.YtocaihmadififaaWMore
import Derived.Deep.CutBlock
import Derived.Deep.RegionHeld3
import Derived.Deep.DrawnRows
namespace Go.Proofs.Ytocaihmadififaa.Print
open Go.RowKit Go.Maps Go.Proofs.YtocaihmadififaaW.PrintWords Go.Proofs.YtocaihmadififaaW.PrintLast Go.Proofs.YtocaihmadififaaW.PrintMore Go.Proofs.Ytocaihmadififaa.Dk
set_option linter.unusedVariables false
set_option linter.unusedSimpArgs false
attribute [local go_sem ↓] Go.wp_at_zero Go.wp_at_succ

theorem add_blk (x : Addr) (k : Nat) : (x.add k).block = x.block := by unfold Addr.add; split <;> rfl
theorem add_on (x : Addr) (k j : Nat) : x.add (k + (j + 1)) = ⟨(x.add k).block, (x.add k).off + (j + 1), none⟩ := by
  unfold Addr.add
  by_cases h : k = 0
  · subst h; simp
  · simp [h]; omega
/-- A step of the row, as plain data. -/
structure St where
  what : Int
  n : Int
  name : ByteArray
  b : ByteArray
  keep : Int
def St.ok (s : St) : Prop := s.n ≤ 9223372036854775807 ∧ 0 ≤ s.keep ∧ s.keep ≤ 18446744073709551615 ∧ s.name.size ≤ maxLen ∧ s.b.size ≤ maxLen
def RowAt (w : World) (A : Option Addr) (l : List St) : Prop := ∀ i (h : i < l.length), ∃ x, A = some x ∧ x.block < w.heap.size ∧ l[i].ok ∧
  w.cell? (x.add (i * 5)) = some (.int .i64 l[i].what) ∧ w.cell? (x.add (i * 5 + 1)) = some (.int .i64 l[i].n) ∧ w.cell? (x.add (i * 5 + 2)) = some (.string l[i].name) ∧ w.cell? (x.add (i * 5 + 3)) = some (.string l[i].b) ∧ w.cell? (x.add (i * 5 + 4)) = some (.int .u64 l[i].keep)
def PInv (w : World) (g gr i : Nat) (wr : World) : Prop := ∃ (d : D) (r : R), T2 w.heap.size g gr wr d r ∧ Like d r ∧ Bnd i d r ∧ Below w.heap.size w wr
def stOb (what n : Int) (name b : ByteArray) (keep : Int) : Obj := .cells #[.int .i64 what, .int .i64 n, .string name, .string b, .int .u64 keep] 45 (0, 0)
theorem ob_cells {what n : Int} {name b : ByteArray} {keep : Int} {w : World} {sb : Nat} (h : w.heap[sb]? = some (stOb what n name b keep)) :
    w.cell? ⟨sb, 0, none⟩ = some (.int .i64 what) ∧ w.cell? ⟨sb, 1, none⟩ = some (.int .i64 n) ∧ w.cell? ⟨sb, 2, none⟩ = some (.string name) ∧ w.cell? ⟨sb, 3, none⟩ = some (.string b) ∧ w.cell? ⟨sb, 4, none⟩ = some (.int .u64 keep) :=
  ⟨(cell_of h 0).trans rfl, (cell_of h 1).trans rfl, (cell_of h 2).trans rfl, (cell_of h 3).trans rfl, (cell_of h 4).trans rfl⟩
theorem PInv.next {w wr : World} {g gr i gc sb : Nat} {ob : Obj} {d c : D} {r : R} (hT : T3 w.heap.size g gr gc sb ob wr d r c) (hL : Like d r) (hB : Bnd (i + 1) d r) (hb : Below w.heap.size w wr) : PInv w g gr (i + 1) wr := ⟨d, r, hT.two, hL, hB, hb⟩
theorem t3_drewN {B g gr gc sb : Nat} {ob : Obj} {w : World} {d c : D} {r : R} (h : T3 B g gr gc sb ob w d r c) (n : Nat) : T3 B g gr gc sb ob (w.drewN n) d r c := by
  obtain ⟨F, G, C, h1, h2, h3, h4, h5, h6, h7⟩ := h
  exact ⟨F, G, C, h1, h2, h3, h4.kept_ (fun _ _ => rfl), h5.kept_ (fun _ _ => rfl), h6.kept_ (fun _ _ => rfl), h7⟩
def PMid (B g gr gc sb i : Nat) (ob : Obj) (c : D) (v10 v11 : Value) (w wx : World) : Prop :=
  ∃ (code : Int) (d : D) (r : R), v10 = .int .i64 code ∧ v11 = .int .i64 code ∧ T3 B g gr gc sb ob wx d r c ∧ Like d r ∧ Bnd (i + 1) d r ∧ Below w.heap.size w wx
theorem mid_of {B g gr gc sb i : Nat} {ob : Obj} {c d : D} {r : R} {v10 v11 : Value} {w wx : World} {code : Int} (h1 : v10 = .int .i64 code) (h2 : v11 = .int .i64 code) (hT : T3 B g gr gc sb ob wx d r c) (hL : Like d r) (hB : Bnd (i + 1) d r) (hb : Below w.heap.size w wx) :
    PMid B g gr gc sb i ob c v10 v11 w wx := ⟨code, d, r, h1, h2, hT, hL, hB, hb⟩
theorem mid_lay {B g gr gc sb i : Nat} {ob : Obj} {c d d' : D} {r r' : R} {v10 v11 : Value} {w wx : World} {name b nw : ByteArray} {put : Bool} {code c0 : Int} (hLd : Laid r name b put code r') (hd : (c0, d') = d.lay name nw ⟨name, b, put⟩) (hnw : nw = now_ r name b put)
    (h1 : v10 = .int .i64 c0) (h2 : v11 = .int .i64 code) (hT : T3 B g gr gc sb ob wx d' r' c) (hL : Like d r) (hB : Bnd i d r) (hn : name.size ≤ 20) (hb : b.size ≤ 200) (hw : Below w.heap.size w wx) :
    PMid B g gr gc sb i ob c v10 v11 w wx := by
  have hLk := hL.lay hLd hnw
  have hBk := hB.lay hL hLd hnw hn hb
  rw [← hd] at hLk hBk
  have e : c0 = code := hLk.1
  subst e
  exact ⟨c0, d', r', h1, h2, hT, hLk.2, hBk, hw⟩
theorem mid_sync {B g gr gc sb i : Nat} {ob : Obj} {c d d' : D} {r r' : R} {v10 v11 : Value} {w wx : World} {name : ByteArray} {code c0 : Int} (hLd : Synced r name code r') (hd : (c0, d') = d.sync name)
    (h1 : v10 = .int .i64 c0) (h2 : v11 = .int .i64 code) (hT : T3 B g gr gc sb ob wx d' r' c) (hL : Like d r) (hB : Bnd i d r) (hw : Below w.heap.size w wx) :
    PMid B g gr gc sb i ob c v10 v11 w wx := by
  have hLk := hL.sync hLd
  have hBk := hB.sync hL hLd
  rw [← hd] at hLk hBk
  have e : c0 = code := hLk.1
  subst e
  exact ⟨c0, d', r', h1, h2, hT, hLk.2, hBk, hw⟩
/-- The copy's own steps. -/
theorem copy_steps {w : World} {g gr gc sb i : Nat} {ob : Obj} {d d0 : D} {r r0 : R} {B : Nat} (hL0 : Like d0 r0) (hB0 : Bnd i d0 r0) (hi : i ≤ 60) (name : ByteArray) (hn : name.size ≤ 20) (hT : T3 B g gr gc sb ob w d r d0) :
    Calls Try.prog 10 #[.pointer (some ⟨gc, 0, none⟩), .string name, .string ⟨#[120]⟩] w fun e w' => ∃ (c : Int) (c1 : D), e = .returned (.int .i64 c) ∧ T3 B g gr gc sb ob w' d r c1 ∧ Below B w w' ∧
      Calls Try.prog 12 #[.pointer (some ⟨gc, 0, none⟩), .int .u64 1] w' fun e w'' => ∃ c2 : D, e = .returned (.tuple #[]) ∧ T3 B g gr gc sb ob w'' d r c2 ∧ Below B w' w'' := by
  have hf := hB0.fitD hL0 (by omega)
  have hu := hB0.used (by omega)
  obtain ⟨hc1, hc2⟩ := hB0.crashD hL0 (by omega)
  have hk := hB0.kn
  have hnn := hB0.nn
  have hs1 := hB0.s1
  have h2 := copy_fit hf (by rw [hL0.steps]; omega) (by omega) (by omega) (by omega) (by rw [hL0.nowt]; omega) hc1 hc2 (name := name) (nw := d0.now.at name ++ ⟨#[120]⟩) (b := ⟨#[120]⟩) hn (by decide) (hL0.at_le name)
  exact (hT.cappend hf name ⟨#[120]⟩ hn (by decide)).mono fun e w' ⟨he, hT', hb'⟩ => ⟨_, _, he, hT', hb', (hT'.ccrash h2.1 1 (by decide) (by decide) h2.2).mono fun e w'' ⟨he2, hT2, hb2⟩ => ⟨_, he2, hT2, hb2⟩⟩

set_option maxHeartbeats 4000000 in
set_option maxRecDepth 100000 in
theorem main_plays (room : Int) (A : Option Addr) (l : List St) (cap : Nat) (hl : l.length ≤ 60) (w : World) (hrow : RowAt w A l) :
    Calls Try.prog 7 #[.int .i64 room, .slice A l.length cap] w fun e w' => e = .returned (.bool true) ∧ Below w.heap.size w w' := by
  have hk := known_calls w
  have hN := fun W => new_calls room W
  have hR := fun W => rnew_calls room W
  have h1 : decide (60 < (l.length : Int)) = false := decide_eq_false (by omega)
  go_enter Try.func7, Try.ntmps7
  go_wp2_with (first
    | (go_at_call 8; with_reducible refine hk.mono ?_; rintro e w1 ⟨rfl, hb1⟩)
    | (go_at_call 9; with_reducible refine (hN w1).mono ?_; rintro e w2 ⟨rfl, HD2, hb2⟩)
    | (go_at_call 17; with_reducible refine (hR w2).mono ?_; rintro e w3 ⟨rfl, HR3, hb3⟩))
  have hs1 := hb1.size
  have hs2 := hb2.size
  have hBW3 : Below w.heap.size w w3 := hb1.trans ((hb2.mono hs1).trans (hb3.mono (by omega)))
  have h0 : PInv w (w1.heap.size + 2) w2.heap.size 0 w3 := by
    refine ⟨D.new room, R.new room, ⟨_, _, rfl, rfl, HD2.on hb3, HR3, fun k hk => ?_, fun k hk => ?_, hBW3.size, fun k hk hk2 => ?_⟩, Like.new room, Bnd.new room, hBW3⟩
    · rcases hk with e | e | e | e
      · rw [e]; show w.heap.size ≤ w1.heap.size + 2; omega
      · rw [e]; show w.heap.size ≤ w1.heap.size; omega
      · rw [e]; show w.heap.size ≤ w1.heap.size + 1; omega
      · cases e
    · rcases hk with e | e | e
      · rw [e]; show w.heap.size ≤ w2.heap.size; omega
      · cases e
      · cases e
    · have := HD2.lt k hk
      rcases hk2 with e | e | e
      · have e2 : k = w2.heap.size := e; omega
      · cases e
      · cases e
  obtain ⟨g, hg⟩ : ∃ g, w1.heap.size + 2 = g := ⟨_, rfl⟩
  obtain ⟨gr, hgr⟩ : ∃ gr, w2.heap.size = gr := ⟨_, rfl⟩
  rw [hg, hgr] at h0 ⊢
  clear HD2 HR3 hb1 hb2 hb3 hBW3 hs1 hs2 hg hgr hN hR hk
  go_loopg [7] l.length (fun gg v7 wr => ∃ i : Nat, i ≤ l.length ∧ l.length - i ≤ gg ∧ v7 = .int .i64 (i : Int) ∧ PInv w g gr i wr)
  case atStart => exact ⟨0, Nat.zero_le _, Nat.le_refl _, rfl, h0⟩
  case round =>
    obtain ⟨i, hi, hgk, rfl, d, r, HT, HL, HBd, HBW⟩ := hrel
    clear h0
    by_cases hlt : i < l.length
    · have hltz : decide ((i : Int) < (l.length : Int)) = true := decide_eq_true (by omega)
      obtain ⟨x, rfl, hxb, hok, r0, r1, r2, r3, r4⟩ := hrow i hlt
      obtain ⟨s, hse⟩ : ∃ s, l[i] = s := ⟨_, rfl⟩
      rw [hse] at hok r0 r1 r2 r3 r4
      obtain ⟨what, n, name, b, keep⟩ := s
      obtain ⟨o1, o2, o3, o4, o5⟩ := hok
      simp only at r0 r1 r2 r3 r4 o1 o2 o3 o4 o5
      have q0 := (HBW.cell (p := x.add (i * 5)) (by rw [add_blk]; exact hxb)).trans r0
      have q1 := (HBW.cell (p := x.add (i * 5 + 1)) (by rw [add_blk]; exact hxb)).trans r1
      have q2 := (HBW.cell (p := x.add (i * 5 + 2)) (by rw [add_blk]; exact hxb)).trans r2
      have q3 := (HBW.cell (p := x.add (i * 5 + 3)) (by rw [add_blk]; exact hxb)).trans r3
      have q4 := (HBW.cell (p := x.add (i * 5 + 4)) (by rw [add_blk]; exact hxb)).trans r4
      rw [add_on] at q1 q2 q3 q4
      simp only [Nat.zero_add, Nat.reduceAdd] at q1 q2 q3 q4
      clear r0 r1 r2 r3 r4 hrow hse
      have hpl := HBd.pl
      have bW : (wr.alloc (.cells #[.int .i64 what, .int .i64 n, .string name, .string b, .int .u64 keep] 45)).heap[wr.heap.size]? = some (stOb what n name b keep) := (MapKept.heap_alloc wr _).1
      have hBA : Below wr.heap.size wr (wr.alloc (.cells #[.int .i64 what, .int .i64 n, .string name, .string b, .int .u64 keep] 45)) := (Below.refl _ wr).alloc (Nat.le_refl _) _
      have HBs := HBW.size
      by_cases hz : 20 < name.size
      · have z1 : decide (20 < (name.size : Int)) = true := decide_eq_true (by omega)
        go_wp2
        go_ret
        exact ⟨rfl, HBW.trans (hBA.mono HBs)⟩
      · have z1 : decide (20 < (name.size : Int)) = false := decide_eq_false (by omega)
        by_cases hy : 200 < b.size
        · have z2 : decide (200 < (b.size : Int)) = true := decide_eq_true (by omega)
          go_wp2
          go_ret
          exact ⟨rfl, HBW.trans (hBA.mono HBs)⟩
        · have z2 : decide (200 < (b.size : Int)) = false := decide_eq_false (by omega)
          have hfD := HBd.fitD HL (by omega)
          have hfR := HBd.fitR (by omega)
          have hkn := HBd.kn
          have hcopy := HT.copy hBA bW (Nat.le_refl _) (by omega)
          have HB1 := HBW.trans (hBA.mono HBs)
          clear bW hBA
          go_upto_block 2 with (first
            | (go_at_call 18; with_reducible refine hcopy.mono ?_; rintro e w4 ⟨gc, rfl, T4, hb4⟩; obtain ⟨z0, z1, z2, z3, z4⟩ := ob_cells T4.block; have HBx := HB1.trans hb4))
          go_cut [10, 11] (fun v10 v11 wx => PMid w.heap.size g gr gc wr.heap.size i (stOb what n name b keep) d v10 v11 w wx)
          case first =>
            by_cases w2 : what ≤ 2
            · have y1 : decide (what ≤ 2) = true := decide_eq_true w2
              have cA := fun gc W r' (h : T3 w.heap.size g gr gc wr.heap.size (stOb what n name b keep) W d r' d) => h.append hfD name b (by omega) (by omega)
              have cL := fun gc W d' (h : T3 w.heap.size g gr gc wr.heap.size (stOb what n name b keep) W d' r d) => h.rlay hfR name b false (by omega)
              go_wp2
              have T5 := T4.drew
              obtain ⟨z0, z1, z2, z3, z4⟩ := ob_cells T5.block
              replace HBx := HBx.trans (below_drew1 (Below.refl _ _))
              clear T4
              go_region_held3 (fun w' => w'.cell? ⟨wr.heap.size, 2, none⟩ = some (.string name) ∧ w'.cell? ⟨wr.heap.size, 3, none⟩ = some (.string b)) (first | exact ⟨by assumption, by assumption⟩ | go_keep) (first
                | (go_at_call 10; refine (cA gc _ _ T5).mono ?_; rintro e w5 ⟨rfl, T5, hb5⟩; obtain ⟨z0, z1, z2, z3, z4⟩ := ob_cells T5.block; replace HBx := HBx.trans hb5)
                | (go_at_call 19; refine (cL gc _ _ T5).mono ?_; rintro e w5 ⟨r6, ⟨code, rfl, hLd⟩, T5, hb5⟩; obtain ⟨z0, z1, z2, z3, z4⟩ := ob_cells T5.block; replace HBx := HBx.trans hb5))
              all_goals
                go_wp2_with fail
                go_meet
                exact mid_lay hLd (nw := d.now.at name ++ b) (rfl) (by rw [HL.old name]; rfl) rfl rfl T5 HL HBd (by omega) (by omega) HBx
            · have y1 : decide (what ≤ 2) = false := decide_eq_false w2
              by_cases w3 : what = 3
              · have y2 : (what == 3) = true := beq_iff_eq.mpr w3
                have cA := fun gc W r' (h : T3 w.heap.size g gr gc wr.heap.size (stOb what n name b keep) W d r' d) => h.put hfD name b (by omega) (by omega)
                have cL := fun gc W d' (h : T3 w.heap.size g gr gc wr.heap.size (stOb what n name b keep) W d' r d) => h.rlay hfR name b true (by omega)
                go_wp2
                have T5 := T4.drew
                obtain ⟨z0, z1, z2, z3, z4⟩ := ob_cells T5.block
                replace HBx := HBx.trans (below_drew1 (Below.refl _ _))
                clear T4
                go_region_held3 (fun w' => w'.cell? ⟨wr.heap.size, 2, none⟩ = some (.string name) ∧ w'.cell? ⟨wr.heap.size, 3, none⟩ = some (.string b)) (first | exact ⟨by assumption, by assumption⟩ | go_keep) (first
                  | (go_at_call 14; refine (cA gc _ _ T5).mono ?_; rintro e w5 ⟨rfl, T5, hb5⟩; obtain ⟨z0, z1, z2, z3, z4⟩ := ob_cells T5.block; replace HBx := HBx.trans hb5)
                  | (go_at_call 19; refine (cL gc _ _ T5).mono ?_; rintro e w5 ⟨r6, ⟨code, rfl, hLd⟩, T5, hb5⟩; obtain ⟨z0, z1, z2, z3, z4⟩ := ob_cells T5.block; replace HBx := HBx.trans hb5))
                all_goals
                  go_wp2_with fail
                  go_meet
                  exact mid_lay hLd (nw := b) (rfl) (rfl) rfl rfl T5 HL HBd (by omega) (by omega) HBx
              · have y2 : (what == 3) = false := beq_eq_false_iff_ne.mpr w3
                by_cases w5 : what ≤ 5
                · have y3 : decide (what ≤ 5) = true := decide_eq_true w5
                  have cA := fun gc W r' (h : T3 w.heap.size g gr gc wr.heap.size (stOb what n name b keep) W d r' d) => h.sync hfD name (by omega)
                  have cL := fun gc W d' (h : T3 w.heap.size g gr gc wr.heap.size (stOb what n name b keep) W d' r d) => h.rsync hfR name
                  go_wp2
                  have T5 := T4.drew
                  obtain ⟨z0, z1, z2, z3, z4⟩ := ob_cells T5.block
                  replace HBx := HBx.trans (below_drew1 (Below.refl _ _))
                  clear T4
                  go_region_held3 (fun w' => w'.cell? ⟨wr.heap.size, 2, none⟩ = some (.string name) ∧ w'.cell? ⟨wr.heap.size, 3, none⟩ = some (.string b)) (first | exact ⟨by assumption, by assumption⟩ | go_keep) (first
                    | (go_at_call 11; refine (cA gc _ _ T5).mono ?_; rintro e w5 ⟨rfl, T5, hb5⟩; obtain ⟨z0, z1, z2, z3, z4⟩ := ob_cells T5.block; replace HBx := HBx.trans hb5)
                    | (go_at_call 20; refine (cL gc _ _ T5).mono ?_; rintro e w5 ⟨r6, ⟨code, rfl, hLd⟩, T5, hb5⟩; obtain ⟨z0, z1, z2, z3, z4⟩ := ob_cells T5.block; replace HBx := HBx.trans hb5))
                  all_goals
                    go_wp2_with fail
                    go_meet
                    exact mid_sync hLd rfl rfl rfl T5 HL HBd HBx
                · have y3 : decide (what ≤ 5) = false := decide_eq_false w5
                  by_cases w6 : what = 6
                  · have y4 : (what == 6) = true := beq_iff_eq.mpr w6
                    have cA := fun gc W (h : T3 w.heap.size g gr gc wr.heap.size (stOb what n name b keep) W d r d) => h.limit n
                    have cL := fun gc W (h : T3 w.heap.size g gr gc wr.heap.size (stOb what n name b keep) W (d.limit n) r d) => h.rlimit n
                    go_wp2_with (first
                      | (go_at_call 15; with_reducible refine (cA gc _ T4).mono ?_; rintro e w5 ⟨rfl, T5, hb5⟩; obtain ⟨z0, z1, z2, z3, z4⟩ := ob_cells T5.block; replace HBx := HBx.trans hb5)
                      | (go_at_call 21; with_reducible refine (cL gc _ T5).mono ?_; rintro e w6 ⟨rfl, T6, hb6⟩; obtain ⟨z0, z1, z2, z3, z4⟩ := ob_cells T6.block; replace HBx := HBx.trans hb6))
                    go_meet
                    exact mid_of rfl rfl T6 (HL.limit n) (HBd.limit n o1) HBx
                  · have y4 : (what == 6) = false := beq_eq_false_iff_ne.mpr w6
                    have hcD := HBd.crashD HL (by omega)
                    have hcR := HBd.crashR (by omega)
                    have cA := fun gc W (h : T3 w.heap.size g gr gc wr.heap.size (stOb what n name b keep) W d r d) => h.crash hfD keep o2 o3 hcD
                    have cL := fun gc W (h : T3 w.heap.size g gr gc wr.heap.size (stOb what n name b keep) W (d.crash keep) r d) => h.rcrash hfR keep o2 o3 HL.known hcR
                    clear hcD hcR
                    go_wp2_with (first
                      | (go_at_call 12; with_reducible refine (cA gc _ T4).mono ?_; rintro e w5 ⟨rfl, T5, hb5⟩; obtain ⟨z0, z1, z2, z3, z4⟩ := ob_cells T5.block; replace HBx := HBx.trans hb5)
                      | (go_at_call 22; with_reducible refine (cL gc _ T5).mono ?_; rintro e w6 ⟨rfl, T6, hb6⟩; obtain ⟨z0, z1, z2, z3, z4⟩ := ob_cells T6.block; replace HBx := HBx.trans hb6))
                    go_meet
                    exact mid_of rfl rfl T6 (HL.crash keep) (HBd.crash (by omega) keep) HBx
          case rest =>
            obtain ⟨code, d6, r6, rfl, rfl, T6, HL6, HB6, HBx⟩ := hcut
            obtain ⟨z0, z1, z2, z3, z4⟩ := ob_cells T6.block
            have hcd : (code != code) = false := bne_self_eq_false _
            have hrd := HL6.read name
            obtain ⟨⟨pa, ph⟩, hpr⟩ : ∃ p, r6.read name = p := ⟨_, rfl⟩
            have hlen6 := HB6.ll
            have cC := copy_steps HL HBd (by omega) name (by omega) T6
            have HFIN : Aside0 (∀ w9 c9, T3 w.heap.size g gr gc wr.heap.size (stOb what n name b keep) w9 d6 r6 c9 → Below w.heap.size w w9 → PInv w g gr (i + 1) w9) := ⟨fun w9 c9 h hb => PInv.next h HL6 HB6 hb⟩
            have HST : d6.steps = r6.steps := HL6.steps
            have hpa : (pa.toList != pa.toList) = false := bne_self_eq_false _
            have hph : (ph != ph) = false := bne_self_eq_false _
            have hst : (r6.steps != r6.steps) = false := bne_self_eq_false _
            clear HL6 HB6 HL HBd HT
            go_wp2_with (first
              | (go_at_call_of 10 (Value.pointer (some ⟨gc, 0, none⟩)); with_reducible refine cC.mono ?_; rintro e w7 ⟨c1, d7, rfl, T7, hb7, cX⟩; obtain ⟨z0, z1, z2, z3, z4⟩ := ob_cells T7.block; have HBx := HBx.trans hb7)
              | (go_at_call_of 12 (Value.pointer (some ⟨gc, 0, none⟩)); with_reducible refine cX.mono ?_; rintro e w8 ⟨d8, rfl, T8, hb8⟩; obtain ⟨z0, z1, z2, z3, z4⟩ := ob_cells T8.block; have HBx := HBx.trans hb8; have cR := T8.read name (by omega); rw [hrd, hpr] at cR; have cRR := T8.rread name (by omega); rw [hpr] at cRR; have cS := (by intro nn; have h := (t3_drewN T8 nn).steps; rw [HST] at h; exact h : ∀ nn, Calls Try.prog 16 #[.pointer (some ⟨g, 0, none⟩)] (w8.drewN nn) fun e w' => e = .returned (.int .i64 r6.steps) ∧ w' = w8.drewN nn); have zs := T8.rsteps)
              | (go_at_call 13; with_reducible refine cR.mono ?_; rintro e w9 ⟨rfl, hw9⟩; replace hw9 := hw9.symm; subst hw9)
              | (go_at_call 23; with_reducible refine cRR.mono ?_; rintro e w9 ⟨rfl, hw9⟩; replace hw9 := hw9.symm; subst hw9))
            go_quiet ((go_at_call 16; exact Calls.quiet_of_same (cS _)))
            all_goals
              go_wp2
              go_roundg (l.length - (i + 1))
              case measure => omega
              case rel => exact ⟨i + 1, by omega, by omega, by simp, HFIN.out _ _ (t3_drewN T8 nq) (pw_below_drewN HBx nq)⟩
    · obtain rfl : i = l.length := by omega
      have hltz : decide ((l.length : Int) < (l.length : Int)) = false := decide_eq_false (by omega)
      go_wp2
      go_ret
      exact ⟨rfl, HBW⟩

end Go.Proofs.Ytocaihmadififaa.Print
