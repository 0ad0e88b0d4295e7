/- A disk as it lies in the heap; the small methods. -/
import Derived.Test.YtocaihmadififaaDiskC
import Derived.Test.YtocaihmadififaaMine
import Derived.Test.YtocaihmadififaaProg
import Derived.Below
import Derived.Lib.BufferMore
import Derived.OwnWalk
import Derived.Laws.MakeOwn
import Derived.Maps.AppendAt
import Derived.IntWalk
import Derived.Shelf.Abstract
import Derived.Deep.LoopGhost
import Derived.Deep.RegionLaw
import Derived.StringKeys
import Derived.Maps.RangeWalk
import Derived.Tactics
import Derived.WalkKit
import Derived.KernelRfl
import Derived.RowKit3
import Derived.RowKit
import Derived.WalkMore
import Derived.Deep.QuietTactic
import Derived.BigQuiet
import Derived.WideLaws
import Derived.Deep.DeepCutAuto
import Derived.OrdersHeld
import Derived.Test.YtocaihmadififaaWWords
import Derived.Test.YtocaihmadififaaWLast
import Derived.Test.YtocaihmadififaaWFour
import Derived.Test.YtocaihmadififaaWMore
namespace Go.Proofs.Ytocaihmadififaa.Dk
open Go.RowKit Go.Maps Go.Proofs.YtocaihmadififaaW.PrintWords Go.Proofs.YtocaihmadififaaW.PrintLast Go.Proofs.YtocaihmadififaaW.PrintMore
set_option linter.unusedVariables false
set_option linter.unusedSimpArgs false

/-! ### A row of what is pending -/
theorem flat_length (l : List Op) : (l.flatMap Op.cells).length = l.length * 3 := by
  induction l with
  | nil => rfl
  | cons o r ih => simp [List.flatMap_cons, ih, Op.cells]; omega
theorem flat_at (l : List Op) (k i : Nat) (hi : i < 3) (hk : k < l.length) : (l.flatMap Op.cells)[k * 3 + i]? = (l[k].cells)[i]? := by
  induction l generalizing k with
  | nil => simp at hk
  | cons o r ih =>
    rw [List.flatMap_cons]
    cases k with
    | zero => rw [List.getElem?_append_left (by simp [Op.cells]; omega)]; simp
    | succ k =>
      rw [List.getElem?_append_right (by simp [Op.cells]; omega)]
      have : (k + 1) * 3 + i - o.cells.length = k * 3 + i := by simp [Op.cells]; omega
      rw [this]
      simpa using ih k (by simpa using hk)
theorem cells_of_take {w : World} {g : Nat} {cur : Array Value} {e : TypeId} {ops : List Op} {f : Nat × Nat} (hg : w.heap[g]? = some (.cells cur e f)) (ht : cur.toList.take (ops.length * 3) = ops.flatMap Op.cells) {k : Nat} (hk : k < ops.length) :
    w.cell? ⟨g, k * 3, none⟩ = some (.string ops[k].name) ∧ w.cell? ⟨g, k * 3 + 1, none⟩ = some (.string ops[k].b) ∧ w.cell? ⟨g, k * 3 + 2, none⟩ = some (.bool ops[k].put) := by
  have key : ∀ i, i < 3 → w.cell? ⟨g, k * 3 + i, none⟩ = (ops[k].cells)[i]? := fun i hi => by
    rw [cell_of hg, ← flat_at ops k i hi hk, ← ht, List.getElem?_take]
    rw [if_pos (by omega)]
    simp
  exact ⟨key 0 (by omega), key 1 (by omega), key 2 (by omega)⟩

theorem same_eq (a b : ByteArray) : (a.toList == b.toList) = decide (a = b) := by
  rw [ByteArray.toList_eq, ByteArray.toList_eq]
  by_cases h : a = b
  · subst h; simp
  · rw [decide_eq_false h]
    exact beq_eq_false_iff_ne.2 (fun e => h (toList_inj e))

/-! ### The closure -/
theorem same_calls (o : Op) (box : Nat) (name : ByteArray) (w : World) (hbox : w.cell? ⟨box, 0, none⟩ = some (.string name)) (hb : box < w.heap.size) :
    Calls Try.prog 27 #[.agg #[.string o.name, .string o.b, .bool o.put], .pointer (some ⟨box, 0, none⟩)] w fun e w' => e = .returned (.bool (decide (o.name = name))) ∧ Below w.heap.size w w' := by
  have hne : box ≠ w.heap.size := by omega
  go_enter Try.func27, Try.ntmps27
  go_wp2
  go_ret
  rw [← same_eq]
  exact ⟨rfl, (Below.refl _ w).alloc (Nat.le_refl _) _⟩

/-! ### IndexFunc -/
def idx (name : ByteArray) (ops : List Op) : Int := match ops.findIdx? (fun o => decide (o.name = name)) with | some k => (k : Int) | none => -1

theorem idx_hit {name : ByteArray} {ops : List Op} {k : Nat} (hk : k < ops.length) (h : ops[k].name = name) (hn : ∀ j (h : j < ops.length), j < k → ops[j].name ≠ name) : idx name ops = (k : Int) := by
  unfold idx
  rw [List.findIdx?_eq_some_iff_getElem.2 ⟨hk, by simpa using h, fun j hj => by simpa using hn j (by omega) hj⟩]
theorem idx_miss {name : ByteArray} {ops : List Op} (hn : ∀ j (h : j < ops.length), j < ops.length → ops[j].name ≠ name) : idx name ops = -1 := by
  unfold idx
  rw [List.findIdx?_eq_none_iff.2 (fun x hx => by
    obtain ⟨j, hj, rfl⟩ := List.getElem_of_mem hx
    simpa using hn j hj hj)]

theorem index_calls {w : World} {v : Value} {ops : List Op} (hrow : w.ownsRow 0 62 3 v ops.length (ops.flatMap Op.cells)) (box : Nat) (name : ByteArray) (hbox : w.cell? ⟨box, 0, none⟩ = some (.string name)) (hlen : ops.length ≤ 1048576) :
    Calls Try.prog 35 #[v, .func (.func 27) #[] #[.pointer (some ⟨box, 0, none⟩)]] w fun e w' => e = .returned (.int .i64 (idx name ops)) ∧ Below w.heap.size w w' := by
  have hbl := World.block_lt_of_cell? w _ hbox
  rcases hrow.2 with ⟨rfl, h0⟩ | ⟨g, cap, cur, rfl, _, hg, hnc, hcm, hcs, htake⟩
  · obtain rfl : ops = [] := List.length_eq_zero_iff.1 h0
    go_enter Try.func35, Try.ntmps35
    go_wp2
    go_loopg [5, 8] 0 (fun _ _ s8 wr => s8 = .int .i64 0 ∧ wr = w)
    case atStart => exact ⟨rfl, rfl⟩
    case round =>
      obtain ⟨rfl, rfl⟩ := hrel
      go_wp2
      go_ret
      exact ⟨rfl, Below.refl _ _⟩
  · have hgl : g < w.heap.size := (Array.getElem?_eq_some_iff.1 hg).1
    go_enter Try.func35, Try.ntmps35
    go_wp2
    go_loopg [5, 8] ops.length (fun gg _ s8 wr => ∃ kk : Nat, kk ≤ ops.length ∧ ops.length - kk ≤ gg ∧ s8 = .int .i64 kk ∧ Below w.heap.size w wr ∧ Aside0 (∀ j (h : j < ops.length), j < kk → ops[j].name ≠ name))
    case atStart => exact ⟨0, Nat.zero_le _, by omega, rfl, Below.refl _ _, Aside0.mk (fun j _ hj => absurd hj (Nat.not_lt_zero _))⟩
    case round =>
      obtain ⟨kk, hkk, hgg, rfl, hbel, A⟩ := hrel
      by_cases hlt : kk < ops.length
      · have hltz : (kk : Int) < (ops.length : Int) := by omega
        have hgr : wr.heap[g]? = some (.cells cur 62 (0, 0)) := (hbel.block g hgl).trans hg
        obtain ⟨k0, k1, k2⟩ := cells_of_take hgr htake hlt
        have hbx : wr.cell? ⟨box, 0, none⟩ = some (.string name) := (hbel.cell (p := ⟨box, 0, none⟩) hbl).trans hbox
        have hcall := same_calls ops[kk] box name wr hbx (Nat.lt_of_lt_of_le hbl hbel.size)
        have HO : ∃ o, Aside0 (ops[kk] = o) := ⟨_, Aside0.mk rfl⟩
        obtain ⟨o, HO⟩ := HO
        rw [HO.out] at k0 k1 k2 hcall
        by_cases hs : o.name = name
        · rw [decide_eq_true hs] at hcall
          have HS := Aside0.mk hs
          clear hs
          go_wp2_with (go_at_call 27; refine hcall.mono ?_; rintro e w' ⟨rfl, hb2⟩)
          go_ret
          refine ⟨?_, Mine.step_below hbel hb2⟩
          rw [idx_hit hlt (by rw [HO.out]; exact HS.out) A.out]
          rfl
        · rw [decide_eq_false hs] at hcall
          have HS := Aside0.mk hs
          clear hs
          go_wp2_with (go_at_call 27; refine hcall.mono ?_; rintro e w' ⟨rfl, hb2⟩)
          go_roundg (ops.length - (kk + 1))
          case measure => omega
          case rel =>
            refine ⟨kk + 1, by omega, by omega, by go_num, Mine.step_below hbel hb2, Aside0.mk (fun j h hj => ?_)⟩
            by_cases e : j = kk
            · subst e; rw [HO.out]; exact HS.out
            · exact A.out j h (by omega)
      · obtain rfl : kk = ops.length := by omega
        go_wp2
        go_ret
        refine ⟨?_, hbel⟩
        rw [idx_miss A.out]
        rfl

/-! ### DeleteFunc -/
theorem below_grown {w wr w' : World} {r : Option Nat} (h : w.grownBy wr r) (hb : Below wr.heap.size wr w') : w.grownBy w' r :=
  ⟨hb.os.trans h.os, hb.tape.trans h.tape, hb.output.trans h.output, Nat.le_trans h.size hb.size, fun k hk hn => (hb.block k (Nat.lt_of_lt_of_le hk h.size)).trans (h.block k hk hn)⟩
def At (cur : Array Value) (k : Nat) (o : Op) : Prop := cur[k * 3]? = some (.string o.name) ∧ cur[k * 3 + 1]? = some (.string o.b) ∧ cur[k * 3 + 2]? = some (.bool o.put)
theorem At.of_take {cur : Array Value} {ops : List Op} (ht : cur.toList.take (ops.length * 3) = ops.flatMap Op.cells) {k : Nat} (hk : k < ops.length) : At cur k ops[k] := by
  have key : ∀ i, i < 3 → cur[k * 3 + i]? = (ops[k].cells)[i]? := fun i hi => by
    rw [← flat_at ops k i hi hk, ← ht, List.getElem?_take, if_pos (by omega)]
    simp
  exact ⟨key 0 (by omega), key 1 (by omega), key 2 (by omega)⟩
theorem take_of_at {cur : Array Value} {ops : List Op} (h : ∀ k (h : k < ops.length), At cur k ops[k]) : cur.toList.take (ops.length * 3) = ops.flatMap Op.cells := by
  apply List.ext_getElem?
  intro m
  by_cases hm : m < ops.length * 3
  · rw [List.getElem?_take, if_pos hm]
    have hk : m / 3 < ops.length := by omega
    have em : m = m / 3 * 3 + m % 3 := by omega
    have hf := flat_at ops (m / 3) (m % 3) (by omega) hk
    rw [← em] at hf
    rw [hf]
    obtain ⟨a0, a1, a2⟩ := h _ hk
    have e3 : m % 3 = 0 ∨ m % 3 = 1 ∨ m % 3 = 2 := by omega
    rcases e3 with e | e | e <;> rw [e] at em ⊢ <;> simp only [Op.cells, Array.getElem?_toList]
    · exact (congrArg (fun x => cur[x]?) em).trans a0
    · exact (congrArg (fun x => cur[x]?) em).trans a1
    · exact (congrArg (fun x => cur[x]?) em).trans a2
  · rw [List.getElem?_eq_none (by rw [List.length_take]; omega), List.getElem?_eq_none (by rw [flat_length]; omega)]
def put3 (cur : Array Value) (i : Nat) (o : Op) : Array Value := ((cur.setIfInBounds (i * 3) (.string o.name)).setIfInBounds (i * 3 + 1) (.string o.b)).setIfInBounds (i * 3 + 2) (.bool o.put)
theorem At.put3_same {cur : Array Value} {i : Nat} {o : Op} (h : i * 3 + 2 < cur.size) : At (put3 cur i o) i o := by
  unfold At put3
  refine ⟨?_, ?_, ?_⟩ <;> simp [Array.getElem?_setIfInBounds] <;> omega
theorem At.put3_other {cur : Array Value} {i k : Nat} {o o' : Op} (hk : k ≠ i) (h : At cur k o') : At (put3 cur i o) k o' := by
  unfold At put3 at *
  simp only [Array.getElem?_setIfInBounds, Array.size_setIfInBounds]
  obtain ⟨h0, h1, h2⟩ := h
  refine ⟨?_, ?_, ?_⟩
  · rw [if_neg (by omega), if_neg (by omega), if_neg (by omega)]; exact h0
  · rw [if_neg (by omega), if_neg (by omega), if_neg (by omega)]; exact h1
  · rw [if_neg (by omega), if_neg (by omega), if_neg (by omega)]; exact h2
theorem put3_size {cur : Array Value} {i : Nat} {o : Op} : (put3 cur i o).size = cur.size := by simp [put3]
def keep (name : ByteArray) (ops : List Op) : List Op := ops.filter (fun o => !decide (o.name = name))

theorem keep_start {name : ByteArray} {ops : List Op} {k0 : Nat} (hk : k0 < ops.length) (hit : decide (ops[k0].name = name) = true) (hn : ∀ j (h : j < k0), ¬ decide ((ops[j]'(by omega)).name = name) = true) : keep name (ops.take (k0 + 1)) = ops.take k0 := by
  unfold keep
  rw [List.take_succ_eq_append_getElem hk, List.filter_append]
  have h1 : (ops.take k0).filter (fun o => !decide (o.name = name)) = ops.take k0 := List.filter_eq_self.2 (fun o ho => by
    obtain ⟨j, hj, rfl⟩ := List.getElem_of_mem ho
    rw [List.length_take] at hj
    have := hn j (by omega)
    rw [List.getElem_take]
    simpa using this)
  rw [h1]
  simp [hit]
theorem keep_next {name : ByteArray} {ops : List Op} {j : Nat} (hj : j < ops.length) : keep name (ops.take (j + 1)) = keep name (ops.take j) ++ (if ops[j].name = name then [] else [ops[j]]) := by
  unfold keep
  rw [List.take_succ_eq_append_getElem hj, List.filter_append]
  congr 1
  by_cases h : ops[j].name = name <;> simp [h]

theorem zeroOp (w : World) : (zeroValue 62).run Try.prog w = .ok (.agg #[.string ByteArray.empty, .string ByteArray.empty, .bool false]) w := by kernel_rfl
theorem clear_run {W : World} {g o n c : Nat} {ty : TypeId} (hn : 0 < n) {cur : Array Value} (hg : W.heap[g]? = some (.cells cur 62 (0, 0))) (hb : o + n * 3 ≤ cur.size) :
    ∃ Z : List Value, Z.length = n * 3 ∧ (Builtin.clear_ #[57] ty #[.slice (some ⟨g, o, none⟩) n c]).run Try.prog W = .ok (.tuple #[]) (W.setCells g o Z) := by
  have hl : (Builtin.zeroCells #[.string ByteArray.empty, .string ByteArray.empty, .bool false] n).toList.length = n * 3 := by rw [Array.length_toList, size_zeroCells]; rfl
  have hone : ∀ v ∈ (Builtin.zeroCells #[.string ByteArray.empty, .string ByteArray.empty, .bool false] n).toList, v.oneCell' = true := by
    intro v hv
    simp only [Builtin.zeroCells, Array.toList_map, List.mem_map] at hv
    obtain ⟨i, _, rfl⟩ := hv
    have : i % 3 = 0 ∨ i % 3 = 1 ∨ i % 3 = 2 := by omega
    show (#[Value.string ByteArray.empty, .string ByteArray.empty, .bool false][i % 3]!).oneCell' = true
    rcases this with e | e | e <;> rw [e] <;> rfl
  refine ⟨_, hl, ?_⟩
  have hst := run_storeCells_cells (P := Try.prog) g o _ 0 W (fun j hj => by rw [hl] at hj; rw [cell_of hg, Array.getElem?_eq_getElem (by omega)]; rfl) (fun j hj => frozen_of hg _) hone
  simp only [Nat.add_zero] at hst
  obtain ⟨m, rfl⟩ : ∃ m, n = m + 1 := ⟨n - 1, by omega⟩
  simp only [Builtin.clear_]
  simp [run_underlying Try.underlying57, zeroOp, Value.cells]
  erw [hst]
  rfl

set_option maxHeartbeats 1000000 in
theorem delete_calls {w : World} {v : Value} {ops : List Op} (hrow : w.ownsRow 0 62 3 v ops.length (ops.flatMap Op.cells)) (box : Nat) (name : ByteArray) (hbox : w.cell? ⟨box, 0, none⟩ = some (.string name)) (hne : v.ownBlock ≠ some box) (hlen : ops.length ≤ 1048576) :
    Calls Try.prog 26 #[v, .func (.func 27) #[] #[.pointer (some ⟨box, 0, none⟩)]] w fun e w' => ∃ v', e = .returned v' ∧ w'.ownsRow 0 62 3 v' (keep name ops).length ((keep name ops).flatMap Op.cells) ∧
      (v'.ownBlock = v.ownBlock ∧ w.grownBy w' v.ownBlock) := by
  have hix := index_calls hrow box name hbox hlen
  have hbl := World.block_lt_of_cell? w _ hbox
  unfold idx at hix
  cases hfi : ops.findIdx? (fun o => decide (o.name = name)) with
  | none =>
    rw [hfi] at hix
    have hk : keep name ops = ops := List.filter_eq_self.2 (fun o ho => by have := List.findIdx?_eq_none_iff.1 hfi o ho; simp at this ⊢; exact this)
    rw [hk]
    clear hfi hk
    go_enter Try.func26, Try.ntmps26
    go_wp2_with (go_at_call 35; refine hix.mono ?_; rintro e w' ⟨rfl, hb2⟩)
    go_ret
    refine ⟨_, rfl, row_kept hrow (fun b e => hb2.block b (hrow.lt b e).2), rfl, ⟨hb2.os, hb2.tape, hb2.output, hb2.size, fun k hk _ => hb2.block k hk⟩⟩
  | some k0 =>
    rw [hfi] at hix
    obtain ⟨hk0, hit, hnot⟩ := List.findIdx?_eq_some_iff_getElem.1 hfi
    rcases hrow.2 with ⟨_, h0⟩ | ⟨g, cap, cur, rfl, _, hg, hnc, hcm, hcs, htake⟩
    · omega
    · have hgl : g < w.heap.size := (Array.getElem?_eq_some_iff.1 hg).1
      have hgb : g ≠ box := by simpa [Value.ownBlock] using hne
      have hnk : ((k0 : Int) == -1) = false := beq_eq_false_iff_ne.2 (by omega)
      clear hfi
      go_enter Try.func26, Try.ntmps26
      go_wp2_with (go_at_call 35; refine hix.mono ?_; rintro e w1 ⟨rfl, hb1⟩)
      go_loopg [5, 6] ops.length (fun gg v5 v6 wr => ∃ (i j : Nat) (c : Array Value), j ≤ ops.length ∧ ops.length - j ≤ gg ∧ v5 = .int .i64 (i : Int) ∧ v6 = .int .i64 (j : Int) ∧ i < j ∧ c.size = cap * 3 ∧ i = (keep name (ops.take j)).length ∧ w.grownBy wr (some g) ∧
        wr.heap[g]? = some (.cells c 62 (0, 0)) ∧ Aside0 (∀ k (h : k < (keep name (ops.take j)).length), At c k (keep name (ops.take j))[k]) ∧ Aside0 (∀ k (h : k < ops.length), j ≤ k → At c k ops[k]))
      case atStart =>
        refine ⟨k0, k0 + 1, cur, by omega, by omega, rfl, by simp, by omega, hcs, ?_, ⟨hb1.os, hb1.tape, hb1.output, hb1.size, fun k hk _ => hb1.block k hk⟩, (hb1.block g hgl).trans hg, ?_, Aside0.mk (fun k h _ => At.of_take htake h)⟩
        · rw [keep_start hk0 hit hnot, List.length_take]; omega
        · rw [keep_start hk0 hit hnot]
          exact Aside0.mk (fun k h => by
            rw [List.getElem_take]
            exact At.of_take htake (by rw [List.length_take] at h; omega))
      case round =>
        obtain ⟨i, j, c, hj, hgg, rfl, rfl, hij, hcz, hi, hgr, hgc, A, B⟩ := hrel
        by_cases hlt : j < ops.length
        · have hltz : (j : Int) < (ops.length : Int) := by omega
          have hop := B.out j hlt (Nat.le_refl _)
          have HO : ∃ o, Aside0 (ops[j] = o) := ⟨_, Aside0.mk rfl⟩
          obtain ⟨o, HO⟩ := HO
          rw [HO.out] at hop
          have k0' := (cell_of hgc (j * 3)).trans hop.1
          have k1' := (cell_of hgc (j * 3 + 1)).trans hop.2.1
          have k2' := (cell_of hgc (j * 3 + 2)).trans hop.2.2
          have hboxr : wr.cell? ⟨box, 0, none⟩ = some (.string name) := hgr.cell hbox (fun e => hgb (Option.some.inj e).symm)
          have hsz := hgr.size
          have hgl2 : g < wr.heap.size := Nat.lt_of_lt_of_le hgl hsz
          have hal : Below wr.heap.size wr (wr.alloc (.cells #[.string o.name, .string o.b, .bool o.put] 62)) := (Below.refl _ wr).alloc (Nat.le_refl _) _
          have hcall := same_calls o box name (wr.alloc (.cells #[.string o.name, .string o.b, .bool o.put] 62)) ((hal.cell (p := ⟨box, 0, none⟩) (Nat.lt_of_lt_of_le hbl hsz)).trans hboxr) (Nat.lt_of_lt_of_le hbl (Nat.le_trans hsz hal.size))
          have hnx := keep_next (name := name) hlt
          rw [HO.out] at hnx
          clear hop
          have HI := Aside0.mk hi
          clear hi
          by_cases hs : o.name = name
          · rw [decide_eq_true hs] at hcall
            rw [if_pos hs, List.append_nil] at hnx
            have HN := Aside0.mk hnx
            clear hs hnx
            go_wp2_with (go_at_call 27; refine hcall.mono ?_; rintro e w' ⟨rfl, hb2⟩)
            have hb3 := hal.trans (hb2.mono hal.size)
            go_roundg (ops.length - (j + 1))
            case measure => omega
            case rel =>
              refine ⟨i, j + 1, c, by omega, by omega, by go_num, by go_num, by omega, hcz, by rw [HN.out]; exact HI.out, below_grown hgr hb3, (hb3.block g hgl2).trans hgc, ?_, Aside0.mk (fun k h hk => B.out k h (by omega))⟩
              rw [HN.out]
              exact A
          · rw [decide_eq_false hs] at hcall
            rw [if_neg hs] at hnx
            have HN := Aside0.mk hnx
            clear hs hnx
            have hw1 : i * 3 + 2 < c.size := by omega
            go_wp2_with (go_at_call 27; refine hcall.mono ?_; rintro e w' ⟨rfl, hb2⟩
                         have hb3 := hal.trans (hb2.mono hal.size)
                         have hgc3 := (hb3.block g hgl2).trans hgc
                         have q0 := (cell_of hgc3 (i * 3)).trans (Array.getElem?_eq_getElem (by omega))
                         have q1 := (cell_of hgc3 (i * 3 + 1)).trans (Array.getElem?_eq_getElem (by omega))
                         have q2 := (cell_of hgc3 (i * 3 + 2)).trans (Array.getElem?_eq_getElem (by omega))
                         have r0 := frozen_of hgc3 (i * 3)
                         have r1 := frozen_of hgc3 (i * 3 + 1)
                         have r2 := frozen_of hgc3 (i * 3 + 2)
                         have bx := (hb2.block wr.heap.size (by simp)).trans (MapKept.heap_alloc wr (.cells #[.string o.name, .string o.b, .bool o.put] 62)).1
                         have x0 := (cell_of bx 0).trans (rfl : _ = some (Value.string o.name))
                         have x1 := (cell_of bx 1).trans (rfl : _ = some (Value.string o.b))
                         have x2 := (cell_of bx 2).trans (rfl : _ = some (Value.bool o.put)))
            have hb3 := hal.trans (hb2.mono hal.size)
            have hgc3 := (hb3.block g hgl2).trans hgc
            go_roundg (ops.length - (j + 1))
            case measure => omega
            case rel =>
              have hlen3 : (keep name (ops.take (j + 1))).length = i + 1 := by rw [HN.out, List.length_append, ← HI.out]; rfl
              refine ⟨i + 1, j + 1, put3 c i o, by omega, by omega, by go_num, by go_num, by omega, by rw [put3_size]; exact hcz, hlen3.symm, ?_,
                Lib.heap_setCell_same (Lib.heap_setCell_same (Lib.heap_setCell_same hgc3 _) _) _, Aside0.mk (fun k h => ?_), Aside0.mk (fun k h hk => At.put3_other (by omega) (B.out k h (by omega)))⟩
              · have h3 := below_grown hgr hb3
                exact ⟨h3.os, h3.tape, h3.output, by simpa [World.setCell] using h3.size, fun k hk hn => by
                  have hkg : k ≠ g := fun e => hn (by rw [e])
                  exact ((Below.heap_setCell _ _ _ k hkg).trans ((Below.heap_setCell _ _ _ k hkg).trans (Below.heap_setCell _ _ _ k hkg))).trans (h3.block k hk hn)⟩
              · rw [hlen3] at h
                by_cases e : k = i
                · subst e
                  have : (keep name (ops.take (j + 1)))[k] = o := by
                    simp only [HN.out]
                    rw [List.getElem_append_right (by rw [← HI.out]; exact Nat.le_refl _)]
                    simp
                  rw [this]
                  exact At.put3_same hw1
                · have hk2 : k < (keep name (ops.take j)).length := by rw [← HI.out]; omega
                  have : (keep name (ops.take (j + 1)))[k] = (keep name (ops.take j))[k] := by
                    simp only [HN.out]
                    rw [List.getElem_append_left hk2]
                  rw [this]
                  exact At.put3_other e (A.out k hk2)
        · obtain rfl : j = ops.length := by omega
          have HI := Aside0.mk hi
          clear hi
          obtain ⟨Z, hZ, hclear⟩ := clear_run (W := wr) (g := g) (o := i * 3) (n := ops.length - i) (c := cap - i) (ty := 0) (by omega) hgc (by omega)
          go_wp2
          go_ret
          have hfull : keep name (ops.take ops.length) = keep name ops := by rw [List.take_length]
          rw [hfull] at A HI
          obtain ⟨cur', h1, h2, h3⟩ := setCells_row (e := 62) Z (i * 3) wr c hgc (by omega)
          obtain ⟨o1, o2, o3, o4⟩ := setCells_same g Z (i * 3) wr
          refine ⟨_, rfl, ⟨flat_length _, .inr ⟨g, cap, cur', by rw [HI.out]; rfl, Nat.zero_le _, h1, by rw [← HI.out]; omega, hcm, by omega, ?_⟩⟩, rfl, ⟨o1.trans hgr.os, o2.trans hgr.tape, o3.trans hgr.output, by rw [o4]; exact hgr.size, fun k hk hn => (setCells_far Z (i * 3) k (fun e => hn (by rw [e]; rfl))).trans (hgr.block k hk hn)⟩⟩
          rw [h3, ← HI.out, List.append_assoc, List.take_append_of_le_length (by rw [List.length_take, Array.length_toList]; omega), List.take_take, Nat.min_self, HI.out]
          exact take_of_at A.out

end Go.Proofs.Ytocaihmadififaa.Dk
