/- The document's disk: a file is made. -/
import Derived.Test.YtocaihmadififaaRefA
import Derived.Test.YtocaihmadififaaMine
import Derived.Test.YtocaihmadififaaProg
import Derived.Below
import Derived.Lib.BufferMore
import Derived.OwnWalk
import Derived.Laws.MakeOwn
import Derived.Maps.AppendAt
import Derived.IntWalk
import Derived.MapKept
import Derived.Lib.SliceRun
import Derived.Laws.Externs
import Derived.Shelf.Abstract
import Derived.Deep.LoopGhost
import Derived.Deep.RegionLaw
import Derived.RegionTactic
import Derived.ChangeAlike
import Derived.BigRegion
import Derived.StringKeys
import Derived.Maps.RangeWalk
import Derived.Tactics
import Derived.WalkKit
import Derived.KernelRfl
import Derived.RowKit3
import Derived.RowKit
import Derived.WalkMore
import Derived.Deep.QuietTactic
import Derived.BigQuiet
import Derived.WideLaws
import Derived.Deep.DeepCutAuto
import Derived.OrdersHeld
import Derived.Test.YtocaihmadififaaWWords
import Derived.Test.YtocaihmadififaaWLast
import Derived.Test.YtocaihmadififaaWFour
import Derived.Test.YtocaihmadififaaWMore
namespace Go.Proofs.Ytocaihmadififaa.Dk
open Go.RowKit Go.Maps Go.Proofs.YtocaihmadififaaW.PrintWords Go.Proofs.YtocaihmadififaaW.PrintLast Go.Proofs.YtocaihmadififaaW.PrintMore
set_option linter.unusedVariables false
set_option linter.unusedSimpArgs false

def FAt (cur : Array Value) (k : Nat) (f : Fl) : Prop := cur[k * 4]? = some (.string f.name) ∧ cur[k * 4 + 1]? = some (.string f.has) ∧ cur[k * 4 + 2]? = some (.string f.kept) ∧ cur[k * 4 + 3]? = some (.bool f.is)
theorem FAt.of_take {cur : Array Value} {l : List Fl} (ht : cur.toList.take (l.length * 4) = l.flatMap Fl.cells) {k : Nat} (hk : k < l.length) : FAt cur k l[k] := by
  have key : ∀ i, i < 4 → cur[k * 4 + i]? = (l[k].cells)[i]? := fun i hi => by
    rw [← fl_at l k i hi hk, ← ht, List.getElem?_take, if_pos (by omega)]
    simp
  exact ⟨key 0 (by omega), key 1 (by omega), key 2 (by omega), key 3 (by omega)⟩
theorem take_of_fat {cur : Array Value} {l : List Fl} (h : ∀ k (h : k < l.length), FAt cur k l[k]) : cur.toList.take (l.length * 4) = l.flatMap Fl.cells := by
  apply List.ext_getElem?
  intro m
  by_cases hm : m < l.length * 4
  · rw [List.getElem?_take, if_pos hm]
    have hk : m / 4 < l.length := by omega
    have em : m = m / 4 * 4 + m % 4 := by omega
    have hf := fl_at l (m / 4) (m % 4) (by omega) hk
    rw [← em] at hf
    rw [hf]
    obtain ⟨a0, a1, a2, a3⟩ := h _ hk
    have e3 : m % 4 = 0 ∨ m % 4 = 1 ∨ m % 4 = 2 ∨ m % 4 = 3 := by omega
    rcases e3 with e | e | e | e <;> rw [e] at em ⊢ <;> simp only [Fl.cells, Array.getElem?_toList]
    · exact (congrArg (fun x => cur[x]?) em).trans a0
    · exact (congrArg (fun x => cur[x]?) em).trans a1
    · exact (congrArg (fun x => cur[x]?) em).trans a2
    · exact (congrArg (fun x => cur[x]?) em).trans a3
  · rw [List.getElem?_eq_none (by rw [List.length_take]; omega), List.getElem?_eq_none (by rw [fl_length]; omega)]
def put4 (cur : Array Value) (i : Nat) (f : Fl) : Array Value := (((cur.setIfInBounds (i * 4) (.string f.name)).setIfInBounds (i * 4 + 1) (.string f.has)).setIfInBounds (i * 4 + 2) (.string f.kept)).setIfInBounds (i * 4 + 3) (.bool f.is)
theorem FAt.put4_same {cur : Array Value} {i : Nat} {f : Fl} (h : i * 4 + 3 < cur.size) : FAt (put4 cur i f) i f := by
  unfold FAt put4
  refine ⟨?_, ?_, ?_, ?_⟩ <;> simp [Array.getElem?_setIfInBounds] <;> omega
theorem FAt.put4_other {cur : Array Value} {i k : Nat} {f f' : Fl} (hk : k ≠ i) (h : FAt cur k f') : FAt (put4 cur i f) k f' := by
  unfold FAt put4 at *
  simp only [Array.getElem?_setIfInBounds, Array.size_setIfInBounds]
  obtain ⟨h0, h1, h2, h3⟩ := h
  refine ⟨?_, ?_, ?_, ?_⟩
  · rw [if_neg (by omega), if_neg (by omega), if_neg (by omega), if_neg (by omega)]; exact h0
  · rw [if_neg (by omega), if_neg (by omega), if_neg (by omega), if_neg (by omega)]; exact h1
  · rw [if_neg (by omega), if_neg (by omega), if_neg (by omega), if_neg (by omega)]; exact h2
  · rw [if_neg (by omega), if_neg (by omega), if_neg (by omega), if_neg (by omega)]; exact h3
theorem put4_size {cur : Array Value} {i : Nat} {f : Fl} : (put4 cur i f).size = cur.size := by simp [put4]

theorem own_full {w : World} {B e size n : Nat} {v : Value} {xs : List Value} (h : w.ownsRow B e size v (n + 1) xs) :
    ∃ g cap cur, v = .slice (some ⟨g, 0, none⟩) (n + 1) cap ∧ w.heap[g]? = some (.cells cur e (0, 0)) ∧ n + 1 ≤ cap ∧ cap ≤ maxLen ∧ cur.size = cap * size ∧ cur.toList.take ((n + 1) * size) = xs := by
  rcases h.2 with ⟨_, h0⟩ | ⟨g, cap, cur, e, _, hg, r⟩
  · omega
  · exact ⟨g, cap, cur, e, hg, r⟩

/-- The row of files is another one, or has other cells. -/
theorem row_end {w w1 wF : World} {F : RF} {d : R} (h : IsR w F d) {g1 cap1 : Nat} {l' : List Fl} {cc : Array Value}
    (hg1 : w.grownBy w1 F.lv.ownBlock) (hat : some g1 = F.lv.ownBlock ∨ w.heap.size ≤ g1)
    (hst : wF.heap[F.g]? = some (.cells ((⟨F.g, .slice (some ⟨g1, 0, none⟩) l'.length cap1, F.pv⟩ : RF).cells d) 54 (0, 0)))
    (hrow : wF.heap[g1]? = some (.cells cc 71 (0, 0))) (hnc : l'.length ≤ cap1) (hcm : cap1 ≤ maxLen) (hcs : cc.size = cap1 * 4) (hA : ∀ i (h : i < l'.length), FAt cc i l'[i])
    (hoth : ∀ b, b ≠ g1 → b ≠ F.g → wF.heap[b]? = w1.heap[b]?) (hsz : wF.heap.size = w1.heap.size) (ho : wF.os = w1.os) (ht : wF.tape = w1.tape) (hp : wF.output = w1.output) :
    IsR wF ⟨F.g, .slice (some ⟨g1, 0, none⟩) l'.length cap1, F.pv⟩ { d with l := l' } ∧ RTurn w wF F ⟨F.g, .slice (some ⟨g1, 0, none⟩) l'.length cap1, F.pv⟩ := by
  obtain ⟨n1, n2, n3⟩ := h.ne
  have hsz1 := hg1.size
  have hgF : g1 ≠ F.g := fun e => by rw [e] at hrow; rw [hst] at hrow; cases hrow
  have hpv : ∀ b, F.pv.ownBlock = some b → wF.heap[b]? = w.heap[b]? := fun b e => by
    have hbl := (h.ps.lt b e).2
    have hb1 : b ≠ g1 := fun e2 => by
      rcases hat with e3 | e3
      · exact n3 g1 e3.symm (by rw [← e2]; exact e)
      · omega
    rw [hoth b hb1 (fun e2 => n2 (by rw [e, e2]))]
    exact hg1.block b hbl (fun e2 => n3 b e2.symm e)
  refine ⟨⟨hst, ⟨by rw [fl_length], .inr ⟨g1, cap1, cc, rfl, Nat.zero_le _, hrow, hnc, hcm, hcs, take_of_fat hA⟩⟩, row_kept h.ps hpv⟩, ⟨ho.trans hg1.os, ht.trans hg1.tape, hp.trans hg1.output, by omega, fun k hk hn => ?_, fun k hk => ?_, rfl⟩⟩
  · have k1 : k ≠ F.g := fun e => hn (.inl e)
    have k2 : F.lv.ownBlock ≠ some k := fun e => hn (.inr (.inl e))
    have k3 : k ≠ g1 := fun e => by
      rcases hat with e3 | e3
      · exact k2 (by rw [← e3, e])
      · omega
    rw [hoth k k3 k1]
    exact hg1.block k hk (fun e => k2 e.symm)
  · rcases hk with e | e | e
    · exact .inl (.inl e)
    · have e2 : some g1 = some k := e
      rcases hat with e3 | e3
      · exact .inl (.inr (.inl (by rw [← e3, e2])))
      · exact .inr (by have := Option.some.inj e2; omega)
    · exact .inl (.inr (.inr e))
/-- Nothing has turned but one block. -/
structure Moved (g : Nat) (w w' : World) : Prop where
  os : w'.os = w.os
  tape : w'.tape = w.tape
  output : w'.output = w.output
  size : w'.heap.size = w.heap.size
  block : ∀ b, b ≠ g → w'.heap[b]? = w.heap[b]?
theorem Moved.refl (g : Nat) (w : World) : Moved g w w := ⟨rfl, rfl, rfl, rfl, fun _ _ => rfl⟩
theorem Moved.set {g : Nat} {w w' : World} (h : Moved g w w') (i : Nat) (v : Value) : Moved g w (w'.setCell ⟨g, i, none⟩ v) :=
  ⟨h.os, h.tape, h.output, by rw [← h.size]; simp [World.setCell], fun b hb => (Below.heap_setCell _ _ _ b hb).trans (h.block b hb)⟩
theorem Moved.drew {g : Nat} {w w' : World} (h : Moved g w w') : Moved g w w'.drew := ⟨h.os, h.tape, h.output, h.size, h.block⟩
theorem ins_at {l : List Fl} {k : Nat} {f : Fl} (hk : k ≤ l.length) {cc : Array Value} (h1 : ∀ i (h : i < l.length), i < k → FAt cc i l[i]) (h2 : FAt cc k f) (h3 : ∀ i (h : i < l.length), k ≤ i → FAt cc (i + 1) l[i]) :
    ∀ i (h : i < (l.take k ++ f :: l.drop k).length), FAt cc i (l.take k ++ f :: l.drop k)[i] := by
  intro i h
  have hlt : (l.take k).length = k := by rw [List.length_take]; omega
  have hlen : (l.take k ++ f :: l.drop k).length = l.length + 1 := by rw [List.length_append, hlt, List.length_cons, List.length_drop]; omega
  rw [hlen] at h
  rcases Nat.lt_trichotomy i k with e | e | e
  · rw [List.getElem_append_left (by omega), List.getElem_take]
    exact h1 i (by omega) e
  · subst e
    rw [List.getElem_append_right (by omega)]
    simp only [hlt, Nat.sub_self, List.getElem_cons_zero]
    exact h2
  · rw [List.getElem_append_right (by omega)]
    obtain ⟨j, rfl⟩ : ∃ j, i = j + 1 := ⟨i - 1, by omega⟩
    have e2 : (f :: l.drop k)[j + 1 - (l.take k).length]'(by simp; omega) = l[j]'(by omega) := by
      have : j + 1 - (l.take k).length = (j - k) + 1 := by omega
      simp only [this, List.getElem_cons_succ, List.getElem_drop]
      congr 1
      omega
    rw [e2]
    exact h3 j (by omega) (by omega)

/-! ### make -/
def newFl (name : ByteArray) : Fl := ⟨name, ByteArray.empty, ByteArray.empty, false⟩
def Made (name : ByteArray) (l : List Fl) (k : Nat) (l' : List Fl) : Prop :=
  (∃ h : k < l.length, l[k].name = name ∧ (∀ j (hj : j < k), (l[j]'(by omega)).name ≠ name) ∧ l' = l) ∨ ((∀ f ∈ l, f.name ≠ name) ∧ k ≤ l.length ∧ l' = l.take k ++ newFl name :: l.drop k)
theorem lv_slice {w : World} {F : RF} {d : R} (h : IsR w F d) : ∃ a c, F.lv = .slice a d.l.length c := by
  rcases h.ls.2 with ⟨e, h0⟩ | ⟨g, cap, cur, e, _⟩
  · exact ⟨none, 0, by rw [e, h0]⟩
  · exact ⟨_, cap, e⟩
set_option maxHeartbeats 2000000 in
theorem rmake_calls {w : World} {F : RF} {d : R} (h : IsR w F d) (name : ByteArray) (hlen : d.l.length ≤ 1000) :
    Calls Try.prog 33 #[.pointer (some ⟨F.g, 0, none⟩), .string name] w fun e w' =>
      ∃ (k : Nat) (l' : List Fl) (F' : RF), e = .returned (.int .i64 (k : Int)) ∧ Made name d.l k l' ∧ IsR w' F' { d with l := l' } ∧ RTurn w w' F F' := by
  obtain ⟨_, c1, _, _, _⟩ := h.c
  have ha := rat_calls h name (by omega)
  rcases fat_cases name d.l with ⟨k, hk, hf, hnm, _, hbef⟩ | ⟨hf, _, hno⟩
  · rw [hf] at ha
    have hkz : decide (0 ≤ (k : Int)) = true := decide_eq_true (by omega)
    have HM : Aside0 (Made name d.l k d.l) := ⟨.inl ⟨hk, hnm, hbef, rfl⟩⟩
    clear hf hbef hnm
    go_enter Try.func33, Try.ntmps33
    go_wp2_with (go_at_call 31; with_reducible refine ha.mono ?_; rintro e w' ⟨rfl, rfl⟩)
    go_ret
    exact ⟨k, d.l, F, rfl, HM.out, h, RTurn.refl _ _⟩
  · rw [hf] at ha
    obtain ⟨a, c, hlv⟩ := lv_slice h
    rw [hlv] at c1
    have HNO := Aside0.mk hno
    clear hf hno
    go_enter Try.func33, Try.ntmps33
    go_wp2_with (go_at_call 31; with_reducible refine ha.mono ?_; rintro e w' ⟨rfl, rfl⟩)
    have hls : w'.ownsRow 0 71 4 (.slice a d.l.length c) d.l.length (d.l.flatMap Fl.cells) := by rw [← hlv]; exact h.ls
    have hne := h.ne
    have hkeep : ∀ w1, w'.grownBy w1 (Value.slice a d.l.length c).ownBlock → w1.frozen? ⟨F.g, 1, none⟩ = false ∧ w1.cell? ⟨F.g, 1, none⟩ = some (.slice a d.l.length c) ∧ w1.heap[F.g]? = some (.cells (F.cells d) 54 (0, 0)) := fun w1 hg => by
      have st := (hg.block F.g (h.lt _ (.inl rfl)) (fun e => hne.1 (by rw [hlv]; exact e.symm))).trans h.st
      refine ⟨frozen_of st 1, (cell_of st 1).trans ?_, st⟩
      show some F.lv = _
      rw [hlv]
    go_loopw [6] (fun v6 wr => ∃ kk : Nat, kk ≤ d.l.length ∧ v6 = .int .i64 (kk : Int) ∧ wr = w') (fun v6 _ => d.l.length - (intOf v6).toNat)
    case atStart => exact ⟨0, Nat.zero_le _, rfl, rfl⟩
    case round =>
      obtain ⟨kk, hkk, rfl, rfl⟩ := hrel
      by_cases hlt : kk < d.l.length
      · have hltz : decide ((kk : Int) < (d.l.length : Int)) = true := decide_eq_true (by omega)
        rcases h.ls.2 with ⟨elv, h0⟩ | ⟨g, cap, cur, elv, _, hg, hnc, hcm, hcs, htake⟩
        · omega
        · rw [hlv] at elv
          cases elv
          obtain ⟨k0, k1, k2, k3⟩ := fl_cells hg htake hlt
          cases hcmp : Op.bytesLess d.l[kk].name.toList name.toList with
          | true =>
            go_wp2
            exact ⟨⟨kk + 1, by omega, by simp, trivial⟩, by simp [intOf]; omega⟩
          | false =>
            go_wp2_with (first
              | ((with_reducible refine gate_builtin (b := .append) (xs := #[.tmp 39, .tmp 41]) rfl ?_); at_builtin; go_loud (refine print_append_cells (w0 := wr) 0 rfl (.tmp 39) (.tmp 41) 51 71 (.agg #[.string ⟨#[]⟩, .string ⟨#[]⟩, .string ⟨#[]⟩, .bool false]) 4 56 rfl Try.underlying51 (by kernel_rfl) rfl (by decide) (by decide) _ d.l.length _ [.string ⟨#[]⟩, .string ⟨#[]⟩, .string ⟨#[]⟩, .bool false] rfl rfl rfl (by intro u hu; simp at hu; rcases hu with rfl | rfl | rfl | rfl <;> rfl) hls (Below.refl 0 wr) (Nat.zero_le _) (by omega) ?_); intro v1 w1 hown hb1 hg1 hat; obtain ⟨g1, cap1, cur1, rfl, hgc, hnc1, hcm1, hcs1, ht1⟩ := own_full hown; obtain ⟨f1, k1', s1'⟩ := hkeep w1 hg1)
              | go_in)
            obtain ⟨W3, hW3⟩ : ∃ W3, W3 = w1.setCell ⟨F.g, 1, none⟩ (.slice (some ⟨g1, 0, none⟩) (d.l.length + 1) cap1) := ⟨_, rfl⟩
            rw [← hW3]
            have hgF : g1 ≠ F.g := fun e => by rw [e] at hgc; rw [s1'] at hgc; cases hgc
            have hM3 : Moved F.g w1 W3 := by rw [hW3]; exact (Moved.refl _ _).set _ _
            have hst3 : W3.heap[F.g]? = some (.cells #[.int .i64 d.room, .slice (some ⟨g1, 0, none⟩) (d.l.length + 1) cap1, F.pv, .int .i64 d.steps, .int .i64 d.left] 54 (0, 0)) := by
              rw [hW3]
              refine (Lib.heap_setCell_same s1' _).trans ?_
              simp [RF.cells]
            have hgc3 : W3.heap[g1]? = some (.cells cur1 71 (0, 0)) := (hM3.block _ hgF).trans hgc
            have hold : Aside0 (∀ i (h : i < d.l.length), FAt cur1 i d.l[i]) := ⟨fun i hi => by
              refine FAt.of_take (l := d.l) ?_ hi
              have := congrArg (List.take (d.l.length * 4)) ht1
              rw [List.take_take, Nat.min_eq_left (by omega), List.take_left' (fl_length d.l)] at this
              exact this⟩
            have hat2 : Aside0 (some g1 = F.lv.ownBlock ∨ wr.heap.size ≤ g1) := ⟨by
              rw [hlv]
              rcases hat with e | ⟨b, e, hb⟩
              · exact .inl e
              · have e2 : some g1 = some b := e
                exact .inr (by have := Option.some.inj e2; omega)⟩
            clear hW3 ht1 hat hown hgc f1 k1' s1' hkeep hls hltz
            go_loopw [7] (fun v7 wq => ∃ (j : Nat) (cc : Array Value), kk ≤ j ∧ j ≤ d.l.length ∧ v7 = .int .i64 (j : Int) ∧ cc.size = cap1 * 4 ∧ wq.heap[g1]? = some (.cells cc 71 (0, 0)) ∧ Moved g1 W3 wq ∧
                Aside0 (∀ i (h : i < d.l.length), i < j → FAt cc i d.l[i]) ∧ Aside0 (∀ i (h : i < d.l.length), j ≤ i → FAt cc (i + 1) d.l[i])) (fun v7 _ => (intOf v7).toNat)
            case atStart => exact ⟨d.l.length, cur1, hkk, Nat.le_refl _, rfl, hcs1, hgc3, Moved.refl _ _, ⟨fun i h _ => hold.out i h⟩, ⟨fun i h h2 => by omega⟩⟩
            case round =>
              obtain ⟨j, cc, hkj, hjn, rfl, hccs, hgq, hMq, A, B⟩ := hrel
              have hgF2 : F.g ≠ g1 := fun e => hgF e.symm
              have hstq : wr.heap[F.g]? = some (.cells #[.int .i64 d.room, .slice (some ⟨g1, 0, none⟩) (d.l.length + 1) cap1, F.pv, .int .i64 d.steps, .int .i64 d.left] 54 (0, 0)) := (hMq.block _ hgF2).trans hst3
              have kq : wr.cell? ⟨F.g, 1, none⟩ = some (.slice (some ⟨g1, 0, none⟩) (d.l.length + 1) cap1) := (cell_of hstq 1).trans rfl
              have hroom : ∀ i, i ≤ d.l.length → i * 4 + 3 < cc.size := fun i hi => by omega
              by_cases hjk : kk < j
              · obtain ⟨jj, rfl⟩ : ∃ jj, j = jj + 1 := ⟨j - 1, by omega⟩
                have hjz : decide ((kk : Int) < ((jj + 1 : Nat) : Int)) = true := decide_eq_true (by omega)
                obtain ⟨p0, p1, p2, p3⟩ := A.out jj (by omega) (by omega)
                have x0 := (cell_of hgq (jj * 4)).trans p0
                have x1 := (cell_of hgq (jj * 4 + 1)).trans p1
                have x2 := (cell_of hgq (jj * 4 + 2)).trans p2
                have x3 := (cell_of hgq (jj * 4 + 3)).trans p3
                have hr := hroom (jj + 1) hjn
                have q0 := (cell_of hgq ((jj + 1) * 4)).trans (Array.getElem?_eq_getElem (by omega))
                have q1 := (cell_of hgq ((jj + 1) * 4 + 1)).trans (Array.getElem?_eq_getElem (by omega))
                have q2 := (cell_of hgq ((jj + 1) * 4 + 2)).trans (Array.getElem?_eq_getElem (by omega))
                have q3 := (cell_of hgq ((jj + 1) * 4 + 3)).trans (Array.getElem?_eq_getElem (by omega))
                have r0 := frozen_of hgq ((jj + 1) * 4)
                have r1 := frozen_of hgq ((jj + 1) * 4 + 1)
                have r2 := frozen_of hgq ((jj + 1) * 4 + 2)
                have r3 := frozen_of hgq ((jj + 1) * 4 + 3)
                go_wp2
                go_region
                go_wp2
                refine ⟨⟨jj, put4 cc (jj + 1) d.l[jj], by omega, by omega, by simp, by rw [put4_size]; exact hccs, Lib.heap_setCell_same (Lib.heap_setCell_same (Lib.heap_setCell_same (Lib.heap_setCell_same hgq _) _) _) _, ((((hMq.set _ _).set _ _).set _ _).set _ _).drew, ⟨fun i hi h2 => FAt.put4_other (by omega) (A.out i hi (by omega))⟩, ⟨fun i hi h2 => ?_⟩⟩, by first | (simp [intOf]; done) | (simp [intOf]; omega)⟩
                by_cases e : i = jj
                · subst e
                  exact FAt.put4_same hr
                · exact FAt.put4_other (by omega) (B.out i hi (by omega))
              · obtain rfl : j = kk := by omega
                have hjz : decide ((j : Int) < (j : Int)) = false := decide_eq_false (by omega)
                have hr := hroom j hjn
                have q0 := (cell_of hgq (j * 4)).trans (Array.getElem?_eq_getElem (by omega))
                have q1 := (cell_of hgq (j * 4 + 1)).trans (Array.getElem?_eq_getElem (by omega))
                have q2 := (cell_of hgq (j * 4 + 2)).trans (Array.getElem?_eq_getElem (by omega))
                have q3 := (cell_of hgq (j * 4 + 3)).trans (Array.getElem?_eq_getElem (by omega))
                have r0 := frozen_of hgq (j * 4)
                have r1 := frozen_of hgq (j * 4 + 1)
                have r2 := frozen_of hgq (j * 4 + 2)
                have r3 := frozen_of hgq (j * 4 + 3)
                have hMF : ∀ u0 u1 u2 u3, Moved g1 W3 ((((wr.setCell ⟨g1, j * 4, none⟩ u0).setCell ⟨g1, j * 4 + 1, none⟩ u1).setCell ⟨g1, j * 4 + 2, none⟩ u2).setCell ⟨g1, j * 4 + 3, none⟩ u3) := fun u0 u1 u2 u3 => (((hMq.set _ _).set _ _).set _ _).set _ _
                have hlen' : (d.l.take j ++ newFl name :: d.l.drop j).length = d.l.length + 1 := by rw [List.length_append, List.length_take, List.length_cons, List.length_drop]; omega
                have HE := fun u0 u1 u2 u3 hrow => row_end (l' := d.l.take j ++ newFl name :: d.l.drop j) (cc := put4 cc j (newFl name)) (cap1 := cap1) h (by rw [hlv]; exact hg1) hat2.out (wF := ((((wr.setCell ⟨g1, j * 4, none⟩ u0).setCell ⟨g1, j * 4 + 1, none⟩ u1).setCell ⟨g1, j * 4 + 2, none⟩ u2).setCell ⟨g1, j * 4 + 3, none⟩ u3))
                  (by rw [hlen']; exact ((hMF u0 u1 u2 u3).block _ hgF2).trans hst3) hrow (by omega) hcm1 (by rw [put4_size]; exact hccs)
                  (ins_at hjn (fun i hi h2 => FAt.put4_other (by omega) (A.out i hi h2)) (FAt.put4_same hr) (fun i hi h2 => FAt.put4_other (by omega) (B.out i hi h2)))
                  (fun b h1 h2 => ((hMF u0 u1 u2 u3).block b h1).trans (hM3.block b h2)) ((hMF u0 u1 u2 u3).size.trans hM3.size) ((hMF u0 u1 u2 u3).os.trans hM3.os) ((hMF u0 u1 u2 u3).tape.trans hM3.tape) ((hMF u0 u1 u2 u3).output.trans hM3.output)
                have HE2 := Aside0.mk HE
                clear HE hMF
                go_wp2
                go_ret
                obtain ⟨HI, HT⟩ := HE2.out _ _ _ _ (Lib.heap_setCell_same (Lib.heap_setCell_same (Lib.heap_setCell_same (Lib.heap_setCell_same hgq _) _) _) _)
                exact ⟨j, _, _, rfl, .inr ⟨HNO.out, hjn, rfl⟩, HI, HT⟩
      · have hltz : decide ((kk : Int) < (d.l.length : Int)) = false := decide_eq_false (by omega)
        go_wp2_with (first
          | ((with_reducible refine gate_builtin (b := .append) (xs := #[.tmp 39, .tmp 41]) rfl ?_); at_builtin; go_loud (refine print_append_cells (w0 := wr) 0 rfl (.tmp 39) (.tmp 41) 51 71 (.agg #[.string ⟨#[]⟩, .string ⟨#[]⟩, .string ⟨#[]⟩, .bool false]) 4 56 rfl Try.underlying51 (by kernel_rfl) rfl (by decide) (by decide) _ d.l.length _ [.string ⟨#[]⟩, .string ⟨#[]⟩, .string ⟨#[]⟩, .bool false] rfl rfl rfl (by intro u hu; simp at hu; rcases hu with rfl | rfl | rfl | rfl <;> rfl) hls (Below.refl 0 wr) (Nat.zero_le _) (by omega) ?_); intro v1 w1 hown hb1 hg1 hat; obtain ⟨g1, cap1, cur1, rfl, hgc, hnc1, hcm1, hcs1, ht1⟩ := own_full hown; obtain ⟨f1, k1', s1'⟩ := hkeep w1 hg1)
          | go_in)
        obtain ⟨W3, hW3⟩ : ∃ W3, W3 = w1.setCell ⟨F.g, 1, none⟩ (.slice (some ⟨g1, 0, none⟩) (d.l.length + 1) cap1) := ⟨_, rfl⟩
        rw [← hW3]
        have hgF : g1 ≠ F.g := fun e => by rw [e] at hgc; rw [s1'] at hgc; cases hgc
        have hM3 : Moved F.g w1 W3 := by rw [hW3]; exact (Moved.refl _ _).set _ _
        have hst3 : W3.heap[F.g]? = some (.cells #[.int .i64 d.room, .slice (some ⟨g1, 0, none⟩) (d.l.length + 1) cap1, F.pv, .int .i64 d.steps, .int .i64 d.left] 54 (0, 0)) := by
          rw [hW3]
          refine (Lib.heap_setCell_same s1' _).trans ?_
          simp [RF.cells]
        have hgc3 : W3.heap[g1]? = some (.cells cur1 71 (0, 0)) := (hM3.block _ hgF).trans hgc
        have hold : Aside0 (∀ i (h : i < d.l.length), FAt cur1 i d.l[i]) := ⟨fun i hi => by
          refine FAt.of_take (l := d.l) ?_ hi
          have := congrArg (List.take (d.l.length * 4)) ht1
          rw [List.take_take, Nat.min_eq_left (by omega), List.take_left' (fl_length d.l)] at this
          exact this⟩
        have hat2 : Aside0 (some g1 = F.lv.ownBlock ∨ wr.heap.size ≤ g1) := ⟨by
          rw [hlv]
          rcases hat with e | ⟨b, e, hb⟩
          · exact .inl e
          · have e2 : some g1 = some b := e
            exact .inr (by have := Option.some.inj e2; omega)⟩
        clear hW3 ht1 hat hown hgc f1 k1' s1' hkeep hls hltz
        go_loopw [7] (fun v7 wq => ∃ (j : Nat) (cc : Array Value), kk ≤ j ∧ j ≤ d.l.length ∧ v7 = .int .i64 (j : Int) ∧ cc.size = cap1 * 4 ∧ wq.heap[g1]? = some (.cells cc 71 (0, 0)) ∧ Moved g1 W3 wq ∧
            Aside0 (∀ i (h : i < d.l.length), i < j → FAt cc i d.l[i]) ∧ Aside0 (∀ i (h : i < d.l.length), j ≤ i → FAt cc (i + 1) d.l[i])) (fun v7 _ => (intOf v7).toNat)
        case atStart => exact ⟨d.l.length, cur1, hkk, Nat.le_refl _, rfl, hcs1, hgc3, Moved.refl _ _, ⟨fun i h _ => hold.out i h⟩, ⟨fun i h h2 => by omega⟩⟩
        case round =>
          obtain ⟨j, cc, hkj, hjn, rfl, hccs, hgq, hMq, A, B⟩ := hrel
          have hgF2 : F.g ≠ g1 := fun e => hgF e.symm
          have hstq : wr.heap[F.g]? = some (.cells #[.int .i64 d.room, .slice (some ⟨g1, 0, none⟩) (d.l.length + 1) cap1, F.pv, .int .i64 d.steps, .int .i64 d.left] 54 (0, 0)) := (hMq.block _ hgF2).trans hst3
          have kq : wr.cell? ⟨F.g, 1, none⟩ = some (.slice (some ⟨g1, 0, none⟩) (d.l.length + 1) cap1) := (cell_of hstq 1).trans rfl
          have hroom : ∀ i, i ≤ d.l.length → i * 4 + 3 < cc.size := fun i hi => by omega
          by_cases hjk : kk < j
          · exact absurd hjk (by omega)
          · obtain rfl : j = kk := by omega
            have hjz : decide ((j : Int) < (j : Int)) = false := decide_eq_false (by omega)
            have hr := hroom j hjn
            have q0 := (cell_of hgq (j * 4)).trans (Array.getElem?_eq_getElem (by omega))
            have q1 := (cell_of hgq (j * 4 + 1)).trans (Array.getElem?_eq_getElem (by omega))
            have q2 := (cell_of hgq (j * 4 + 2)).trans (Array.getElem?_eq_getElem (by omega))
            have q3 := (cell_of hgq (j * 4 + 3)).trans (Array.getElem?_eq_getElem (by omega))
            have r0 := frozen_of hgq (j * 4)
            have r1 := frozen_of hgq (j * 4 + 1)
            have r2 := frozen_of hgq (j * 4 + 2)
            have r3 := frozen_of hgq (j * 4 + 3)
            have hMF : ∀ u0 u1 u2 u3, Moved g1 W3 ((((wr.setCell ⟨g1, j * 4, none⟩ u0).setCell ⟨g1, j * 4 + 1, none⟩ u1).setCell ⟨g1, j * 4 + 2, none⟩ u2).setCell ⟨g1, j * 4 + 3, none⟩ u3) := fun u0 u1 u2 u3 => (((hMq.set _ _).set _ _).set _ _).set _ _
            have hlen' : (d.l.take j ++ newFl name :: d.l.drop j).length = d.l.length + 1 := by rw [List.length_append, List.length_take, List.length_cons, List.length_drop]; omega
            have HE := fun u0 u1 u2 u3 hrow => row_end (l' := d.l.take j ++ newFl name :: d.l.drop j) (cc := put4 cc j (newFl name)) (cap1 := cap1) h (by rw [hlv]; exact hg1) hat2.out (wF := ((((wr.setCell ⟨g1, j * 4, none⟩ u0).setCell ⟨g1, j * 4 + 1, none⟩ u1).setCell ⟨g1, j * 4 + 2, none⟩ u2).setCell ⟨g1, j * 4 + 3, none⟩ u3))
              (by rw [hlen']; exact ((hMF u0 u1 u2 u3).block _ hgF2).trans hst3) hrow (by omega) hcm1 (by rw [put4_size]; exact hccs)
              (ins_at hjn (fun i hi h2 => FAt.put4_other (by omega) (A.out i hi h2)) (FAt.put4_same hr) (fun i hi h2 => FAt.put4_other (by omega) (B.out i hi h2)))
              (fun b h1 h2 => ((hMF u0 u1 u2 u3).block b h1).trans (hM3.block b h2)) ((hMF u0 u1 u2 u3).size.trans hM3.size) ((hMF u0 u1 u2 u3).os.trans hM3.os) ((hMF u0 u1 u2 u3).tape.trans hM3.tape) ((hMF u0 u1 u2 u3).output.trans hM3.output)
            have HE2 := Aside0.mk HE
            clear HE hMF
            go_wp2
            go_ret
            obtain ⟨HI, HT⟩ := HE2.out _ _ _ _ (Lib.heap_setCell_same (Lib.heap_setCell_same (Lib.heap_setCell_same (Lib.heap_setCell_same hgq _) _) _) _)
            exact ⟨j, _, _, rfl, .inr ⟨HNO.out, hjn, rfl⟩, HI, HT⟩

end Go.Proofs.Ytocaihmadififaa.Dk
