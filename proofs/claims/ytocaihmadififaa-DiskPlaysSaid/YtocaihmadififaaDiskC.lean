/- A disk as it lies in the heap; the small methods. -/
import Derived.Test.YtocaihmadififaaDiskB
import Derived.Test.YtocaihmadififaaMine
import Derived.Test.YtocaihmadififaaProg
import Derived.Below
import Derived.Lib.BufferMore
import Derived.OwnWalk
import Derived.Laws.MakeOwn
import Derived.Maps.AppendAt
import Derived.IntWalk
import Derived.Deep.RegionLaw
import Derived.StringKeys
import Derived.Maps.RangeWalk
import Derived.Tactics
import Derived.WalkKit
import Derived.KernelRfl
import Derived.RowKit3
import Derived.RowKit
import Derived.WalkMore
import Derived.Deep.QuietTactic
import Derived.BigQuiet
import Derived.WideLaws
import Derived.Deep.DeepCutAuto
import Derived.OrdersHeld
import Derived.Test.YtocaihmadififaaWWords
import Derived.Test.YtocaihmadififaaWLast
import Derived.Test.YtocaihmadififaaWFour
import Derived.Test.YtocaihmadififaaWMore
namespace Go.Proofs.Ytocaihmadififaa.Dk
open Go.RowKit Go.Maps Go.Proofs.YtocaihmadififaaW.PrintWords Go.Proofs.YtocaihmadififaaW.PrintLast Go.Proofs.YtocaihmadififaaW.PrintMore
set_option linter.unusedVariables false
set_option linter.unusedSimpArgs false

theorem law9 : Keyed Try.prog 9 := string_keyed Try.underlying9
theorem zero9 (w : World) : (zeroValue 9).run Try.prog w = .ok (.string ByteArray.empty) w := by kernel_rfl

theorem mapAt.look {w : World} {b n : Nat} {m : M} (h : mapAt w b n m) {k : ByteArray} (hk : k.size ≤ maxLen) :
    (Instr.lookup 56 (.map (some b)) (.string k) false).run Try.prog w = .ok (.string (m.at k)) w := by
  obtain ⟨x, ho, hs⟩ := h
  obtain ⟨v, ps, hr, hv⟩ := ho.lookup law9 Try.underlying56 (zero9 w) (plainElem_string Try.underlying9 (Nat.zero_le _)) (WideMaps.keyOf_string_mk Try.underlying9 hk)
  obtain ⟨c, rfl, hc, _⟩ := plainElem_string_inv Try.underlying9 hv
  have h1 : x.atKey (kl k) (dl ByteArray.empty) = dl c := congrArg Prod.fst hc
  rw [hs.value k] at h1
  rw [hr, ← dl_inj h1]
theorem mapAt.look_ok {w : World} {b n : Nat} {m : M} (h : mapAt w b n m) {k : ByteArray} (hk : k.size ≤ maxLen) :
    (Instr.lookup 56 (.map (some b)) (.string k) true).run Try.prog w = .ok (.tuple #[.string (m.at k), .bool (m.get k).isSome]) w := by
  obtain ⟨x, ho, hs⟩ := h
  obtain ⟨v, ps, hr, hv⟩ := ho.look_ok law9 Try.underlying56 (zero9 w) (plainElem_string Try.underlying9 (Nat.zero_le _)) (WideMaps.keyOf_string_mk Try.underlying9 hk)
  obtain ⟨c, rfl, hc, _⟩ := plainElem_string_inv Try.underlying9 hv
  have h1 : x.atKey (kl k) (dl ByteArray.empty) = dl c := congrArg Prod.fst hc
  rw [hs.value k] at h1
  have h2 : Maps.has x (.string k.data.toList) = (m.get k).isSome := hs.has k
  rw [hr, ← dl_inj h1, ← h2]
theorem IsDisk.alloc {w : World} {F : Foot} {d : D} (h : IsDisk w F d) (o : Obj) : IsDisk (w.alloc o) F d :=
  h.kept_ (fun k hk => (MapKept.heap_alloc w o).2 k (h.lt k hk))

structure D.Fit (d : D) : Prop where
  s0 : 0 ≤ d.steps
  s1 : d.steps ≤ 1099511627776
  l0 : -1 ≤ d.left
  l1 : d.left ≤ 9223372036854775807
  r0 : 0 ≤ d.room
  r1 : d.room ≤ 1000000
  nn : d.nn ≤ 1099511627776
  kn : d.kn ≤ 1099511627776
  pend : d.pend.length ≤ 1048576
  tot : d.now.tot ≤ 1125899906842624

/-! ### Read -/
def D.read (d : D) (name : ByteArray) : ByteArray × Int := if d.left = 0 then (ByteArray.empty, 22) else if (d.now.get name).isSome then (d.now.at name, 0) else (ByteArray.empty, 23)
theorem read_calls {w : World} {F : Foot} {d : D} (HD : IsDisk w F d) (name : ByteArray) (hn : name.size ≤ maxLen) :
    Calls Try.prog 13 #[.pointer (some ⟨F.g, 0, none⟩), .string name] w fun e w' => e = .returned (.tuple #[.string (d.read name).1, .int .i64 (d.read name).2]) ∧ w' = w := by
  obtain ⟨_, _, c2, _, _, _⟩ := HD.c
  have hlk := HD.now.look_ok hn
  have hoff := off_calls HD
  unfold D.read
  by_cases hl : d.left = 0
  · rw [if_pos hl]
    have hl2 : (d.left == 0) = true := beq_iff_eq.2 hl
    rw [hl2] at hoff
    go_enter Try.func13, Try.ntmps13
    go_wp2_with (go_at_call 25; refine hoff.mono ?_; rintro e w' ⟨rfl, rfl⟩)
    go_ret2
    exact ⟨rfl, rfl⟩
  · rw [if_neg hl]
    have hl2 : (d.left == 0) = false := beq_eq_false_iff_ne.2 hl
    rw [hl2] at hoff
    cases hs : (d.now.get name).isSome with
    | true =>
      rw [hs] at hlk
      go_enter Try.func13, Try.ntmps13
      go_wp2_with (go_at_call 25; refine hoff.mono ?_; rintro e w' ⟨rfl, rfl⟩)
      go_ret2
      exact ⟨rfl, rfl⟩
    | false =>
      rw [hs] at hlk
      go_enter Try.func13, Try.ntmps13
      go_wp2_with (go_at_call 25; refine hoff.mono ?_; rintro e w' ⟨rfl, rfl⟩)
      go_ret2
      exact ⟨rfl, rfl⟩

theorem IsDisk.nowPut {w w2 : World} {F : Foot} {d : D} (h : IsDisk w F d) {x : DU} {n : Nat} {m : M} (ho : w2.ownsMap Try.prog 9 (plainElem Try.prog 9) F.nb n x) (hg : w.grownBy w2 (some F.nb)) (hs : Sees x m) :
    IsDisk w2 F { d with now := m, nn := n } := by
  have hb : ∀ k, F.has k → k ≠ F.nb → w2.heap[k]? = w.heap[k]? := fun k hk hne => hg.block k (h.lt k hk) (by simpa using hne)
  have gk := h.gk
  have hr := h.pend
  refine ⟨(hb _ (.inl rfl) gk.2).trans h.st, h.kept.kept (hb _ (.inr (.inl rfl)) h.apart), ⟨x, ho, hs⟩, row_kept hr (fun b e => hb b (.inr (.inr (.inr e))) (fun e2 => ?_)), h.apart, h.pg⟩
  obtain ⟨_, ⟨es, clock, o, _⟩, _⟩ := h.now
  rcases hr.2 with ⟨e3, _⟩ | ⟨g, cap, cur, e3, _, hg, _⟩
  · rw [e3] at e; cases e
  · rw [e3] at e
    have : g = F.nb := by simpa [Value.ownBlock, e2] using e
    rw [this, o] at hg
    cases hg

theorem undrew {w w' : World} {r : Option Nat} (h : w.drew.grownBy w' r) : w.grownBy w' r := ⟨h.os, h.tape, h.output, h.size, h.block⟩
theorem own_slice {w : World} {e size n : Nat} {v : Value} {xs : List Value} (h : w.ownsRow 0 e size v n xs) (hn : n ≠ 0) : ∃ g cap, v = .slice (some ⟨g, 0, none⟩) n cap := by
  rcases h.2 with ⟨_, h⟩ | ⟨g, cap, _, h, _⟩
  · exact absurd h hn
  · exact ⟨g, cap, h⟩
theorem IsDisk.g3 {w w3 : World} {F : Foot} {d : D} (h : IsDisk w F d) (hg : w.grownBy w3 F.pv.ownBlock) : w3.frozen? ⟨F.g, 3, none⟩ = false ∧ w3.cell? ⟨F.g, 3, none⟩ = some F.pv :=
  have st := (hg.block F.g (h.lt _ (.inl rfl)) (fun e => h.pg e.symm)).trans h.st
  ⟨frozen_of st 3, cell_of st 3⟩
theorem IsDisk.pk {w : World} {F : Foot} {d : D} (h : IsDisk w F d) : F.pv.ownBlock ≠ some F.kb ∧ F.pv.ownBlock ≠ some F.nb := by
  obtain ⟨_, ⟨es, clock, o, _⟩, _⟩ := h.now
  obtain ⟨_, ⟨es1, clock1, o1, _⟩, _⟩ := h.kept
  rcases h.pend.2 with ⟨e3, _⟩ | ⟨g, cap, cur, e3, _, hg, _⟩
  · rw [e3]; simp [Value.ownBlock]
  · rw [e3]
    simp only [Value.ownBlock]
    constructor
    · intro e; rw [Option.some.inj e, o1] at hg; cases hg
    · intro e; rw [Option.some.inj e, o] at hg; cases hg
theorem IsDisk.pushed {w w3 : World} {F : Foot} {d : D} (h : IsDisk w F d) {v1 : Value} {ops : List Op} (hg : w.grownBy w3 F.pv.ownBlock) (hown : w3.ownsRow 0 62 3 v1 ops.length (ops.flatMap Op.cells))
    (hat : v1.ownBlock = F.pv.ownBlock ∨ v1.ownBlock = none ∨ v1.ownBlock = some w.heap.size) :
    IsDisk (w3.setCell ⟨F.g, 3, none⟩ v1) { F with pv := v1 } { d with pend := ops } ∧ Turn w (w3.setCell ⟨F.g, 3, none⟩ v1) F { F with pv := v1 } := by
  have pk := h.pk
  have gk := h.gk
  have hgl := h.lt _ (.inl rfl)
  have st := (hg.block F.g hgl (fun e => h.pg e.symm)).trans h.st
  have ho : ∀ k, k ≠ F.g → (w3.setCell ⟨F.g, 3, none⟩ v1).heap[k]? = w3.heap[k]? := fun k hk => Below.heap_setCell _ _ _ k hk
  have hv : v1.ownBlock ≠ some F.g := by
    rcases hat with e | e | e <;> rw [e]
    · exact h.pg
    · simp
    · intro e2; have := Option.some.inj e2; omega
  refine ⟨⟨(Lib.heap_setCell_same st _).trans (by simp [Foot.cells]), ?_, ?_, row_kept hown (fun b e => ho b (fun e2 => hv (by rw [e, e2]))), h.apart, hv⟩,
    ⟨hg.os, hg.tape, hg.output, by simpa [World.setCell] using hg.size, fun k hk hn => (ho k (fun e => hn (.inl e))).trans (hg.block k hk (fun e => hn (.inr (.inr (.inr e.symm))))), fun k hk => ?_, rfl⟩⟩
  · exact h.kept.kept ((ho _ (fun e => gk.1 e.symm)).trans (hg.block _ (h.lt _ (.inr (.inl rfl))) (fun e => pk.1 e.symm)))
  · exact h.now.kept ((ho _ (fun e => gk.2 e.symm)).trans (hg.block _ (h.lt _ (.inr (.inr (.inl rfl)))) (fun e => pk.2 e.symm)))
  · rcases hk with e | e | e | e
    · exact .inl (.inl e)
    · exact .inl (.inr (.inl e))
    · exact .inl (.inr (.inr (.inl e)))
    · have e : v1.ownBlock = some k := e
      rcases hat with e1 | e1 | e1
      · exact .inl (.inr (.inr (.inr (e1 ▸ e))))
      · rw [e1] at e; cases e
      · exact .inr (Nat.le_of_eq (Option.some.inj (e1.symm.trans e)))
/-- append of one more as a step of a region that draws: whatever the world. -/
theorem step_push {P : Program} {ops : Array Oper} {o : Oper} {a : Act} {Q : Exit → Act → World → Prop} {K : Act → World → Prop} {W : World} (hw : Region.wanted o (yielded ops a.tmps) = true) (s x : Operand) (t e : TypeId) (z : Value) (size bytes : Nat)
    (ho : o.op = .call { callee := .builtin .append, args := #[s, x], argTypes := #[t, t] })
    (ht : P.underlying t = some (.slice e)) (hinfo : (P.info? e).map (fun i => (i.zero, i.size, i.bytes)) = some (some z, size, bytes)) (hz : z.cells.size = size) (hs0 : 0 < size) (hb0 : 0 < bytes)
    (v : Value) (n : Nat) (xs ys : List Value) (hs : a.eval s = v) (g : Nat) (hx : a.eval x = .slice (some ⟨g, 0, none⟩) 1 1) (hys : ys.length = size) (h1 : ∀ u ∈ ys, u.oneCell' = true)
    (hbox : W.heap[g]? = some (.cells ys.toArray e (0, 0))) (HO : W.ownsRow 0 e size v n xs) (hl : (n + 1) * bytes ≤ 140737488355328)
    (h : ∀ v1 w1, w1.ownsRow 0 e size v1 (n + 1) (xs ++ ys) → W.grownBy w1 v.ownBlock → (v1.ownBlock = v.ownBlock ∨ v1.ownBlock = some W.heap.size) → K (a.put o.dst v1) w1) :
    if Region.wanted o (yielded ops a.tmps) = true then Oper.wp P o a W K Q else K (a.put o.dst undef) W := by
  obtain ⟨i0, hi, hzz⟩ := Option.map_eq_some_iff.1 hinfo
  simp only [Prod.mk.injEq] at hzz
  obtain ⟨hz0, hz1, hz2⟩ := hzz
  have hlen : n + 1 ≤ 140737488355328 := Nat.le_trans (Nat.le_mul_of_pos_right _ hb0) hl
  rw [if_pos hw]
  obtain ⟨v1, w1, hr, hown, hg, _, hat⟩ := run_append_own_at (P := P) W 0 t o.type e i0 z size bytes ht hi hz0 hz1 hz2 hz hs0 v n xs HO ⟨g, 0, none⟩ 1 1 ys (by rw [hys]; simp)
    (by simpa using World.news_of_block (cs := ys.toArray) (t := e) (fr := (0, 0)) hbox) h1 (by simp only [maxLen]; omega) hl (Nat.zero_le _)
  unfold Oper.wp execOp
  simp only [ho, resolve, invoke, builtin, Sem.run_bind, Sem.run_pure, Result.andThen_ok, List.map_toArray, List.map_cons, List.map_nil, hs, hx, hr]
  exact h v1 w1 hown hg hat

/-! ### write -/
theorem string_key {key : Value} {k2 : Lit} (h : keyOf Try.prog 9 key = some k2) : ∃ s : ByteArray, key = .string s ∧ k2 = kl s := by
  rw [keyOf_string Try.underlying9] at h
  simp only [mapKey, Try.underlying9] at h
  cases key <;> simp at h
  exact ⟨_, rfl, by rw [kl]; exact h.2.symm⟩

def D.lay (d : D) (name b : ByteArray) (o : Op) : Int × D :=
  if d.left = 0 then (22, d)
  else if (b.size : Int) - ((d.now.at name).size : Int) + (d.now.tot : Int) > d.room then (25, d)
  else (0, ({ d with now := d.now.put name b, nn := d.nn + 1, pend := d.pend ++ [o] } : D).step)

set_option maxHeartbeats 2000000 in
theorem write_calls {w : World} {F : Foot} {d : D} (HD : IsDisk w F d) (hf : d.Fit) (name b : ByteArray) (o : Op) (hn : name.size ≤ 1152921504606846976) (hb : b.size ≤ 1152921504606846976) :
    Calls Try.prog 24 #[.pointer (some ⟨F.g, 0, none⟩), .string name, .string b, .agg #[.string o.name, .string o.b, .bool o.put]] w fun e w' =>
      e = .returned (.int .i64 (d.lay name b o).1) ∧ ∃ F', IsDisk w' F' (d.lay name b o).2 ∧ Turn w w' F F' := by
  have hn2 : name.size ≤ maxLen := Nat.le_trans hn (by simp [maxLen])
  have HD1 := HD.alloc (.cells #[.string o.name, .string o.b, .bool o.put] 62)
  obtain ⟨c0, c1, c2, c3, _, _⟩ := HD1.c
  have hlk := HD1.now.look hn2
  have hoff := off_calls HD1
  unfold D.lay
  by_cases hl : d.left = 0
  · rw [if_pos hl]
    have hl2 : (d.left == 0) = true := beq_iff_eq.2 hl
    rw [hl2] at hoff
    go_enter Try.func24, Try.ntmps24
    go_wp2_with (go_at_call 25; refine hoff.mono ?_; rintro e w' ⟨rfl, rfl⟩)
    go_ret
    exact ⟨rfl, F, HD1, ⟨rfl, rfl, rfl, by simp, fun k hk _ => (MapKept.heap_alloc w _).2 k hk, fun _ h => .inl h, rfl⟩⟩
  · rw [if_neg hl]
    have hl2 : (d.left == 0) = false := beq_eq_false_iff_ne.2 hl
    rw [hl2] at hoff
    obtain ⟨x, hown, hsee⟩ := HD1.now
    go_enter Try.func24, Try.ntmps24
    go_wp2_with (first
      | (go_at_call 25; refine hoff.mono ?_; rintro e w' ⟨rfl, rfl⟩)
      | (at_range; refine wpList_range_own _ rfl _ 56 rfl 9 9 law9 Try.underlying56 _ F.nb d.nn x rfl hown ?_; intro w0 hrg0 hg0 hs0)
      | go_in)
    go_frame
    have es0 : (w.alloc (.cells #[.string o.name, .string o.b, .bool o.put] 62)).heap.size = w.heap.size + 1 := by simp
    rw [es0] at hrg0 hs0 ⊢
    have hT := hown.tidy law9
    have hC := hown.canon law9
    have hw0 := (weigh_start hC).trans hsee.tot
    have hbox1 : (w.alloc (.cells #[.string o.name, .string o.b, .bool o.put] 62)).heap[w.heap.size]? = some (.cells #[.string o.name, .string o.b, .bool o.put] 62 (0, 0)) := (MapKept.heap_alloc w _).1
    have hltF := HD.lt
    have hT1 : Turn w (w.alloc (.cells #[.string o.name, .string o.b, .bool o.put] 62)) F F := ⟨rfl, rfl, rfl, by simp, fun k hk _ => (MapKept.heap_alloc w _).2 k hk, fun _ h => .inl h, rfl⟩
    generalize eW1 : w.alloc (.cells #[.string o.name, .string o.b, .bool o.put] 62) = W1 at *
    have hx1 := hsee.le hT name
    have ht1 := hf.tot
    go_loopw [9] (fun v9 wr => ∃ (left : Lit → Bool) (cnt : Nat) (t : Nat), wr.ranges Try.prog 9 (plainElem Try.prog 9) F.nb (w.heap.size + 1) d.nn x left cnt ∧
        t + weigh x left = d.now.tot ∧ v9 = .int .i64 ((b.size : Int) - ((d.now.at name).size : Int) + (t : Int)) ∧ Below (w.heap.size + 1) W1 wr ∧ wr.heap.size = w.heap.size + 2)
      (fun _ wr => wr.rangeLeft F.nb (w.heap.size + 1))
    case atStart =>
      refine ⟨_, _, 0, hrg0, by omega, ?_, (Below.refl _ _).grown hg0 (by omega) (fun j hj => by cases hj), by omega⟩
      rw [IntWalk.wrap64_in _ (by omega)]
      simp
    case round =>
      obtain ⟨left, cnt, t, hrg, ht, rfl, hbel, hsz⟩ := hrel
      have HW := Aside0.mk ht
      clear ht
      go_wp2_with (first
        | (at_next; refine wpList_next_ranges _ rfl _ rfl 9 law9 (plainElem Try.prog 9) Value.string Value.string (fun key k2 hk => by obtain ⟨s, h1, _⟩ := string_key hk; exact ⟨s, h1⟩) (fun v y hv => by obtain ⟨c, rfl, _⟩ := plainElem_string_inv Try.underlying9 hv; exact ⟨c, rfl⟩) F.nb (w.heap.size + 1) d.nn _ _ _ rfl hrg ?_ ?_)
        | go_in)
      · intro hc0 hl0
        have hwn := weigh_none x hl0
        have HDr : IsDisk wr F d := HD1.kept_ (fun k hk => hbel.block k (by have := hltF k hk; omega))
        have hTr : Turn w wr F F := hT1.trans ⟨hbel.os, hbel.tape, hbel.output, hbel.size, fun k hk _ => hbel.block k (by omega), fun _ h => .inl h, rfl⟩
        have ht := HW.out
        obtain rfl : t = d.now.tot := by omega
        clear HW ht hwn hl0 hc0
        obtain ⟨c0, c1, c2, c3, _, _⟩ := HDr.c
        by_cases hbig : (b.size : Int) - ((d.now.at name).size : Int) + (d.now.tot : Int) > d.room
        · have hdec : decide ((b.size : Int) - ((d.now.at name).size : Int) + (d.now.tot : Int) > d.room) = true := decide_eq_true hbig
          go_wp2
          go_ret
          exact ⟨rfl, F, HDr, hTr⟩
        · have hdec : decide ((b.size : Int) - ((d.now.at name).size : Int) + (d.now.tot : Int) > d.room) = false := decide_eq_false hbig
          have hnn := hf.nn
          have hownr := hrg.owns
          have hkey := WideMaps.keyOf_string_mk Try.underlying9 hn2
          go_wp2_with (first
            | (at_mapUpdate; refine wpList_mapUpdate_own _ rfl _ _ _ 56 rfl 9 9 law9 Try.underlying56 _ F.nb d.nn x rfl hownr (by unfold maxLen; omega) _ _ _ rfl rfl hkey (dl b) [] (plainElem_string Try.underlying9 (by unfold maxLen; omega)) ?_; intro w2 hown2 hg2
               have HD2 : IsDisk w2 F { d with now := d.now.put name b, nn := d.nn + 1 } := HDr.nowPut hown2 hg2 (hsee.put hT name b)
               obtain ⟨e0, e1, e2, e3, _, _⟩ := HD2.c)
            | go_in)
          have hnb : F.nb < w.heap.size := hltF _ (.inr (.inr (.inl rfl)))
          have hgw : F.g < w.heap.size := hltF _ (.inl rfl)
          have hbox2 : w2.heap[w.heap.size]? = some (.cells #[.string o.name, .string o.b, .bool o.put] 62 (0, 0)) :=
            (hg2.block _ (by omega) (fun e => by have := Option.some.inj e; omega)).trans ((hbel.block _ (by omega)).trans hbox1)
          have b0 := (cell_of hbox2 0).trans (rfl : _ = some (Value.string o.name))
          have b1 := (cell_of hbox2 1).trans (rfl : _ = some (Value.string o.b))
          have b2 := (cell_of hbox2 2).trans (rfl : _ = some (Value.bool o.put))
          have hpl := hf.pend
          have HD2a := HD2.alloc (.cells #[.string o.name, .string o.b, .bool o.put] 62)
          obtain ⟨_, _, _, e3a, _, _⟩ := HD2a.c
          have hbx : (w2.alloc (.cells #[.string o.name, .string o.b, .bool o.put] 62)).drew.heap[w2.heap.size]? = some (.cells (Op.cells o).toArray 62 (0, 0)) := (MapKept.heap_alloc w2 _).1
          have hrow : (w2.alloc (.cells #[.string o.name, .string o.b, .bool o.put] 62)).drew.ownsRow 0 62 3 F.pv d.pend.length (d.pend.flatMap Op.cells) := HD2.pend.alloc _
          have hT2 : Turn wr w2 F F := ⟨hg2.os, hg2.tape, hg2.output, hg2.size, fun k hk hn => hg2.block k hk (fun e => hn (.inr (.inr (.inl (Option.some.inj e))))), fun _ h => .inl h, rfl⟩
          have hT3 : Turn w2 (w2.alloc (.cells #[.string o.name, .string o.b, .bool o.put] 62)) F F := ⟨rfl, rfl, rfl, by simp, fun k hk _ => (MapKept.heap_alloc _ _).2 k hk, fun _ h => .inl h, rfl⟩
          have hst0 := hf.s0
          have hst1 := hf.s1
          have hlf0 := hf.l0
          have hlf1 := hf.l1
          go_region_law (refine step_push (by rfl) (.tmp 53) (.tmp 55) 57 62 (.agg #[.string ByteArray.empty, .string ByteArray.empty, .bool false]) 3 40 (by rfl) Try.underlying57 (by kernel_rfl) rfl (by decide) (by decide) F.pv d.pend.length _ (Op.cells o) (by rfl) w2.heap.size (by rfl) (by rfl) (by intro u hu; simp [Op.cells] at hu; rcases hu with rfl | rfl | rfl <;> rfl) hbx hrow (by omega) ?_; intro v1 w3 hown3 hg3 hat3; obtain ⟨g3, cap3, rfl⟩ := own_slice hown3 (Nat.succ_ne_zero _); obtain ⟨f3, k3⟩ := IsDisk.g3 HD2a (undrew hg3))
          all_goals
            obtain ⟨HD4, hT4⟩ := HD2a.pushed (ops := d.pend ++ [o]) (undrew hg3) (by simpa using hown3) (by rcases hat3 with e | e; exact .inl e; exact .inr (.inr e))
            have hst := step_calls HD4 hst0 (by show d.steps < _; omega) hlf0 hlf1
            go_wp2_with (go_at_call 28; refine hst.mono ?_; rintro e w' ⟨rfl, HD5, hT5⟩)
            go_ret
            exact ⟨rfl, _, HD5, (hTr.trans (hT2.trans (hT3.trans hT4))).trans hT5⟩
      · intro k2 c kl2 yd yp w1 cnt1 hkey hlx hel hat hrg1 hlt hg1 hs1 hen
        obtain ⟨k3, e1, rfl⟩ := string_key hkey
        cases e1
        obtain ⟨c2, e2, e3, hcs⟩ := plainElem_string_inv Try.underlying9 hel
        cases e2
        cases e3
        have hws := weigh_step hT hlx hat
        have ht := HW.out
        go_wp2
        go_roundw
        case rel =>
          refine ⟨_, cnt1, t + c.size, hrg1, by omega, ?_, hbel.grown hg1 (by omega) (fun j hj => by cases hj; omega), by omega⟩
          congr 1
          omega
        case measure => rw [hrg1.left_eq, hrg.left_eq]; exact hlt

/-! ### Put, Append -/
theorem put_calls {w : World} {F : Foot} {d : D} (HD : IsDisk w F d) (hf : d.Fit) (name b : ByteArray) (hn : name.size ≤ 1152921504606846976) (hb : b.size ≤ 1152921504606846976) :
    Calls Try.prog 14 #[.pointer (some ⟨F.g, 0, none⟩), .string name, .string b] w fun e w' =>
      e = .returned (.int .i64 (d.lay name b ⟨name, b, true⟩).1) ∧ ∃ F', IsDisk w' F' (d.lay name b ⟨name, b, true⟩).2 ∧ Turn w w' F F' := by
  have hw := write_calls HD hf name b ⟨name, b, true⟩ hn hb
  go_enter Try.func14, Try.ntmps14
  go_wp2_with (go_at_call 24; refine hw.mono ?_; rintro e w' ⟨rfl, h5⟩)
  go_ret
  exact ⟨rfl, h5⟩
theorem append_calls {w : World} {F : Foot} {d : D} (HD : IsDisk w F d) (hf : d.Fit) (name b : ByteArray) (hn : name.size ≤ 1152921504606846976) (hb : b.size ≤ 1152921504606846) :
    Calls Try.prog 10 #[.pointer (some ⟨F.g, 0, none⟩), .string name, .string b] w fun e w' =>
      e = .returned (.int .i64 (d.lay name (d.now.at name ++ b) ⟨name, b, false⟩).1) ∧ ∃ F', IsDisk w' F' (d.lay name (d.now.at name ++ b) ⟨name, b, false⟩).2 ∧ Turn w w' F F' := by
  have hn2 : name.size ≤ maxLen := Nat.le_trans hn (by simp [maxLen])
  obtain ⟨_, _, c2, _, _, _⟩ := HD.c
  have hlk := HD.now.look hn2
  have hle : (d.now.at name).size ≤ d.now.tot := by
    obtain ⟨x, ho, hs⟩ := HD.now
    exact hs.le (ho.tidy law9) name
  have ht := hf.tot
  have hsz : (d.now.at name ++ b).size ≤ 1152921504606846976 := by rw [ByteArray.size_append]; omega
  have hw := write_calls HD hf name (d.now.at name ++ b) ⟨name, b, false⟩ hn hsz
  go_enter Try.func10, Try.ntmps10
  go_wp2_with (go_at_call 24; refine hw.mono ?_; rintro e w' ⟨rfl, h5⟩)
  go_ret
  exact ⟨rfl, h5⟩

end Go.Proofs.Ytocaihmadififaa.Dk
