/- The document's disk: Crash, the walk of its first round. -/
import Derived.Test.YtocaihmadififaaRefE
import Derived.Test.YtocaihmadififaaMine
import Derived.Test.YtocaihmadififaaProg
import Derived.Below
import Derived.Lib.BufferMore
import Derived.OwnWalk
import Derived.Laws.MakeOwn
import Derived.Maps.AppendAt
import Derived.IntWalk
import Derived.MapKept
import Derived.Lib.SliceRun
import Derived.Laws.Externs
import Derived.Shelf.Abstract
import Derived.Deep.LoopGhost
import Derived.Deep.RegionLaw
import Derived.Deep.RegionWith
import Derived.RegionTactic
import Derived.ChangeAlike
import Derived.BigRegion
import Derived.StringKeys
import Derived.Maps.RangeWalk
import Derived.Tactics
import Derived.WalkKit
import Derived.KernelRfl
import Derived.RowKit3
import Derived.RowKit
import Derived.WalkMore
import Derived.Deep.QuietTactic
import Derived.BigQuiet
import Derived.WideLaws
import Derived.Deep.DeepCutAuto
import Derived.OrdersHeld
import Derived.Test.YtocaihmadififaaWWords
import Derived.Test.YtocaihmadififaaWLast
import Derived.Test.YtocaihmadififaaWFour
import Derived.Test.YtocaihmadififaaWMore
namespace Go.Proofs.Ytocaihmadififaa.Dk
open Go.RowKit Go.Maps Go.Proofs.YtocaihmadififaaW.PrintWords Go.Proofs.YtocaihmadififaaW.PrintLast Go.Proofs.YtocaihmadififaaW.PrintMore
set_option linter.unusedVariables false
set_option linter.unusedSimpArgs false


/-! ### Crash: the first round -/
def RcInv (w : World) (F : RF) (d : R) (keep : Int) (v4 v5 : Value) (wr : World) : Prop :=
  ∃ (kk : Nat) (lost : List ByteArray) (l : List Fl), kk ≤ d.p.length ∧ v5 = .int .i64 (kk : Int) ∧ wr.ownsRow w.heap.size 9 1 v4 lost.length (lost.map Value.string) ∧ lost.length ≤ kk ∧ IsR wr F { d with l := l } ∧ RTurn w wr F F ∧
    l.map Fl.name = d.l.map Fl.name ∧ (∀ f ∈ l, f.kept.size + sumB (d.p.drop kk) ≤ 1152921504606846976) ∧ rcGo keep kk l lost (d.p.drop kk) = rcGo keep 0 d.l [] d.p
theorem rc_next {w w5 : World} {F : RF} {d : R} {keep : Int} {kk : Nat} {lost : List ByteArray} {l : List Fl} (hlt : kk < d.p.length) {o : Op} (ho : d.p[kk] = o)
    (hlen : lost.length ≤ kk) (hnm : l.map Fl.name = d.l.map Fl.name) (hsz : ∀ f ∈ l, f.kept.size + sumB (d.p.drop kk) ≤ 1152921504606846976) (hgo : rcGo keep kk l lost (d.p.drop kk) = rcGo keep 0 d.l [] d.p)
    {v4 : Value} {lost' : List ByteArray} {l' : List Fl} (hown : w5.ownsRow w.heap.size 9 1 v4 lost'.length (lost'.map Value.string)) (hI : IsR w5 F { d with l := l' }) (hT : RTurn w w5 F F)
    (hc : (lostAt o.name lost = true ∧ lost' = lost ∧ l' = l) ∨ (lostAt o.name lost = false ∧ lost' = rcL keep kk o lost ∧ l' = rcF keep kk o l)) :
    RcInv w F d keep v4 (.int .i64 ((kk : Int) + 1)) w5 ∧ d.p.length - (intOf (Value.int .i64 ((kk : Int) + 1))).toNat < d.p.length - (intOf (Value.int .i64 (kk : Int))).toNat := by
  have hdrop : d.p.drop kk = o :: d.p.drop (kk + 1) := by rw [List.drop_eq_getElem_cons hlt, ho]
  rw [hdrop] at hsz hgo
  have hs : ∀ f ∈ l, f.kept.size + (o.b.size + sumB (d.p.drop (kk + 1))) ≤ 1152921504606846976 := hsz
  refine ⟨?_, by simp [intOf]; omega⟩
  rcases hc with ⟨h1, rfl, rfl⟩ | ⟨h1, rfl, rfl⟩
  · refine ⟨kk + 1, lost', l', by omega, by simp, hown, by omega, hI, hT, hnm, fun f hf => by have := hs f hf; omega, ?_⟩
    rw [← hgo]
    simp only [rcGo, h1, if_true]
  · refine ⟨kk + 1, _, _, by omega, by simp, hown, ?_, hI, hT, (rcF_names _ _ _ _).trans hnm, fun f hf => ?_, ?_⟩
    · unfold rcL
      split
      · omega
      · simp; omega
    · have := rcF_kept (Z := 1152921504606846976 - (o.b.size + sumB (d.p.drop (kk + 1)))) (o := o) (keep := keep) (i := kk) (l := l) (fun f hf => by have := hs f hf; omega) f hf
      have hex : ∃ f, f ∈ l := by
        cases l with
        | nil =>
          have h2 := rcF_len keep kk o ([] : List Fl)
          have h3 : rcF keep kk o ([] : List Fl) = [] := List.length_eq_zero_iff.1 h2
          rw [h3] at hf; cases hf
        | cons x r => exact ⟨x, by simp⟩
      obtain ⟨f0, hf0⟩ := hex
      have := hs f0 hf0
      omega
    · rw [← hgo]
      simp only [rcGo, h1, Bool.false_eq_true, if_false]
theorem own_grow {w w1 : World} {B e size n : Nat} {v : Value} {xs : List Value} (h : w.ownsRow B e size v n xs) (hb : Below w.heap.size w w1) : w1.ownsRow B e size v n xs := by
  refine ⟨h.1, ?_⟩
  rcases h.2 with h2 | ⟨g, cap, cur, hv, h0, hg, r⟩
  · exact .inl h2
  · exact .inr ⟨g, cap, cur, hv, h0, (hb.block g (Array.getElem?_eq_some_iff.1 hg).1).trans hg, r⟩
theorem own_slice_ {w : World} {B e size n : Nat} {v : Value} {xs : List Value} (h : w.ownsRow B e size v n xs) : ∃ a c, v = .slice a n c := by
  rcases h.2 with ⟨e, h0⟩ | ⟨g, cap, cur, hv, _⟩
  · exact ⟨none, 0, by rw [e, h0]⟩
  · exact ⟨_, _, hv⟩
theorem own_turn {w wr w5 : World} {F : RF} {e size n : Nat} {v : Value} {xs : List Value} (h : wr.ownsRow w.heap.size e size v n xs) (hF : ∀ k, F.has k → k < w.heap.size) (hT : RTurn wr w5 F F) : w5.ownsRow w.heap.size e size v n xs := by
  refine ⟨h.1, ?_⟩
  rcases h.2 with h2 | ⟨g, cap, cur, hv, h0, hg, r⟩
  · exact .inl h2
  · exact .inr ⟨g, cap, cur, hv, h0, (hT.block g (Array.getElem?_eq_some_iff.1 hg).1 (fun e => by have := hF g e; omega)).trans hg, r⟩
/-- A row of strings: its cells. -/
theorem str_cell {w : World} {B e : Nat} {v : Value} {lost : List ByteArray} (h : w.ownsRow B e 1 v lost.length (lost.map Value.string)) {j : Nat} (hj : j < lost.length) :
    ∃ g cap, v = .slice (some ⟨g, 0, none⟩) lost.length cap ∧ w.cell? ⟨g, j, none⟩ = some (.string lost[j]) ∧ g < w.heap.size := by
  rcases h.2 with ⟨_, h0⟩ | ⟨g, cap, cur, e, _, hg, hnc, hcm, hcs, htake⟩
  · omega
  · refine ⟨g, cap, e, ?_, (Array.getElem?_eq_some_iff.1 hg).1⟩
    rw [cell_of hg]
    have h2 : (cur.toList.take (lost.length * 1))[j]? = (lost.map Value.string)[j]? := by rw [htake]
    rw [List.getElem?_take, if_pos (by omega), List.getElem?_map, List.getElem?_eq_getElem hj] at h2
    simpa using h2
theorem RTurn.grow {w w1 w2 : World} {F F' : RF} (h : RTurn w w1 F F') (hb : Below w.heap.size w1 w2) : RTurn w w2 F F' :=
  ⟨hb.os.trans h.os, hb.tape.trans h.tape, hb.output.trans h.output, Nat.le_trans h.size hb.size, fun k hk hn => (hb.block k hk).trans (h.block k hk hn), h.foot, h.g⟩
/-! The second round: what is kept. -/
def fhas (f : Fl) : Fl := ⟨f.name, f.kept, f.kept, f.is⟩
def fixis (f : Fl) : Fl := if f.is then fhas f else f
def lc (l : List Fl) : List Fl := l.filterMap (fun f => if f.is then some (fhas f) else none)
theorem lc_next {l : List Fl} {k : Nat} (hk : k < l.length) : lc (l.take (k + 1)) = lc (l.take k) ++ (if l[k].is then [fhas l[k]] else []) := by
  unfold lc
  rw [List.take_succ_eq_append_getElem hk, List.filterMap_append]
  congr 1
  by_cases h : l[k].is = true <;> simp [h]
def mem (l : List Fl) (k : Nat) : List Fl := (l.take k).map fixis ++ l.drop k
theorem mem_len (l : List Fl) (k : Nat) : (mem l k).length = l.length := by
  simp only [mem, List.length_append, List.length_map, List.length_take, List.length_drop]; omega
theorem mem_get {l : List Fl} {k : Nat} (hk : k < l.length) : (mem l k)[k]'(by rw [mem_len]; exact hk) = l[k] := by
  simp only [mem]
  rw [List.getElem_append_right (by simp; omega)]
  simp [List.length_map, List.length_take, Nat.min_eq_left (Nat.le_of_lt hk)]
theorem mem_off {l : List Fl} {k : Nat} (hk : k < l.length) (h : l[k].is = false) : mem l (k + 1) = mem l k := by
  have h1 : fixis l[k] = l[k] := by unfold fixis; rw [h]; rfl
  simp only [mem]
  rw [List.take_succ_eq_append_getElem hk, List.map_append, List.drop_eq_getElem_cons hk]
  simp [h1]
theorem mem_on {l : List Fl} {k : Nat} (hk : k < l.length) (h : l[k].is = true) : (mem l k).set k (fhas l[k]) = mem l (k + 1) := by
  have h1 : fixis l[k] = fhas l[k] := by unfold fixis; rw [h]; rfl
  simp only [mem]
  rw [List.take_succ_eq_append_getElem hk, List.map_append, List.set_append_right _ _ (by simp; omega)]
  simp only [List.length_map, List.length_take, Nat.min_eq_left (Nat.le_of_lt hk), Nat.sub_self, List.map_cons, List.map_nil, h1]
  rw [List.drop_eq_getElem_cons hk]
  simp only [List.set_cons_zero, List.append_assoc, List.singleton_append]
theorem mem_zero (l : List Fl) : mem l 0 = l := by simp [mem]
theorem has_store {w : World} {F : RF} {d : R} (h : IsR w F d) {k : Nat} (hk : k < d.l.length) (v : ByteArray) :
    ∃ g cap, F.lv = .slice (some ⟨g, 0, none⟩) d.l.length cap ∧ w.cell? ⟨g, k * 4 + 1, none⟩ = some (.string d.l[k].has) ∧ w.cell? ⟨g, k * 4 + 2, none⟩ = some (.string d.l[k].kept) ∧ w.cell? ⟨g, k * 4 + 3, none⟩ = some (.bool d.l[k].is) ∧
      w.frozen? ⟨g, k * 4 + 1, none⟩ = false ∧
      IsR (w.setCell ⟨g, k * 4 + 1, none⟩ (.string v)) F { d with l := d.l.set k { d.l[k] with has := v } } ∧ RTurn w (w.setCell ⟨g, k * 4 + 1, none⟩ (.string v)) F F := by
  obtain ⟨g, cap, cur, hlv, hg, hnc, hcm, hcs, ht⟩ := files_full h hk
  obtain ⟨k0, k1, k2, k3⟩ := fl_cells hg ht hk
  have hF := h.field (i := 1) (f := { d.l[k] with has := v }) (v := .string v) hlv hg hnc hcm hcs ht hk (by omega) (fset (by omega) (FAt.of_take ht hk))
  exact ⟨g, cap, hlv, k1, k2, k3, frozen_of hg _, hF.1, hF.2⟩
theorem IsR.file {w : World} {F : RF} {d : R} (h : IsR w F d) {k : Nat} (hk : k < d.l.length) {g cap : Nat} (hlv : F.lv = .slice (some ⟨g, 0, none⟩) d.l.length cap) :
    w.cell? ⟨g, k * 4, none⟩ = some (.string d.l[k].name) ∧ w.cell? ⟨g, k * 4 + 1, none⟩ = some (.string d.l[k].has) ∧ w.cell? ⟨g, k * 4 + 2, none⟩ = some (.string d.l[k].kept) ∧ w.cell? ⟨g, k * 4 + 3, none⟩ = some (.bool d.l[k].is) := by
  obtain ⟨g', cap', cur, hlv', hg, hnc, hcm, hcs, ht⟩ := files_full h hk
  rw [hlv] at hlv'
  injection hlv' with e1 e2 e3
  have e4 := Option.some.inj e1
  injection e4 with e5
  subst e5
  exact fl_cells hg ht hk
def R.crashed (d : R) (keep : Int) : R := { d with l := lc (rcGo keep 0 d.l [] d.p), p := [], left := -1 }

set_option maxHeartbeats 4000000 in
set_option maxRecDepth 100000 in
theorem rcrash_calls {w : World} {F : RF} {d : R} (h : IsR w F d) (hf : d.Fit) (keep : Int) (hk0 : 0 ≤ keep) (hk1 : keep ≤ 18446744073709551615) (hnames : ∀ o ∈ d.p, o.name ∈ d.l.map Fl.name)
    (hnm0 : ∀ o ∈ d.p, o.name.size ≤ 1152921504606846976) (hsz0 : ∀ f ∈ d.l, f.kept.size + sumB d.p ≤ 1152921504606846976) :
    Calls Try.prog 22 #[.pointer (some ⟨F.g, 0, none⟩), .int .u64 keep] w fun e w' => e = .returned (.tuple #[]) ∧ ∃ F', IsR w' F' (d.crashed keep) ∧ RTurn w w' F F' := by
  have HN := Aside0.mk hnames
  have HF := Aside0.mk h.lt
  have HZ := Aside0.mk hnm0
  have hpl := hf.pl
  have hll : d.l.length ≤ 1048576 := by have := hf.ll; omega
  have h0 : RcInv w F d keep (.slice none 0 0) (.int .i64 0) w := ⟨0, [], d.l, Nat.zero_le _, rfl, World.ownsRow_nil _ _ _ _, Nat.le_refl _, h, RTurn.refl _ _, rfl, hsz0, rfl⟩
  clear hnames hnm0 hsz0
  obtain ⟨pa, pc, hpv⟩ : ∃ a c, F.pv = .slice a d.p.length c := by
    rcases h.ps.2 with ⟨e, h0⟩ | ⟨g, cap, cur, e, _⟩
    · exact ⟨none, 0, by rw [e]; show _ = Value.slice none d.p.length 0; rw [show d.p.length = 0 from h0]⟩
    · exact ⟨_, cap, e⟩
  go_enter Try.func22, Try.ntmps22
  go_wp2
  go_loopw [4, 5] (fun v4 v5 wr => RcInv w F d keep v4 v5 wr) (fun _ v5 _ => d.p.length - (intOf v5).toNat)
  case atStart => exact h0
  case round =>
    obtain ⟨kk, lost, l, hkk, rfl, hown, hlen, HI, HT, hnm, hsz, hgo⟩ := hrel
    obtain ⟨W0, rfl⟩ : ∃ W0, W0 = wr := ⟨_, rfl⟩
    obtain ⟨va, vc, rfl⟩ := own_slice_ hown
    obtain ⟨_, c1, c2, _, _⟩ := HI.c
    have c2' : W0.cell? ⟨F.g, 2, none⟩ = some (.slice pa d.p.length pc) := c2.trans (by rw [hpv])
    clear c2
    have hll2 : l.length = d.l.length := by simpa using congrArg List.length hnm
    by_cases hlt : kk < d.p.length
    · have hltz : decide ((kk : Int) < (d.p.length : Int)) = true := decide_eq_true (by omega)
      have HO : ∃ o, d.p[kk] = o := ⟨_, rfl⟩
      obtain ⟨o, ho⟩ := HO
      have hoin : o.name ∈ l.map Fl.name := by rw [hnm]; exact HN.out o (by rw [← ho]; exact List.getElem_mem hlt)
      have hon : o.name.size ≤ 1152921504606846976 := HZ.out o (by rw [← ho]; exact List.getElem_mem hlt)
      obtain ⟨f, hfl, hfa, hfn, hfb⟩ := fat_of_names hoin
      have hdrop : d.p.drop kk = o :: d.p.drop (kk + 1) := by rw [List.drop_eq_getElem_cons hlt, ho]
      have hks : l[f].kept.size + o.b.size ≤ 1152921504606846976 := by
        have h1 := hsz l[f] (List.getElem_mem hfl)
        rw [hdrop] at h1
        have h2 : l[f].kept.size + (o.b.size + sumB (d.p.drop (kk + 1))) ≤ 1152921504606846976 := h1
        omega
      have fin := fun (w5 : World) (v4 : Value) (lost' : List ByteArray) (l' : List Fl) => rc_next (w := w) (w5 := w5) (F := F) (keep := keep) (v4 := v4) (lost' := lost') (l' := l') hlt ho hlen hnm hsz hgo
      have FIN := Aside0.mk fin
      have hset : ∀ g, updF o.name g l = l.set f (g l[f]) := fun g => updF_set o.name g l f hfl hfn hfb
      have HSET := Aside0.mk hset
      have HFA := rat_calls HI o.name (by show l.length ≤ _; omega)
      obtain ⟨on, ob, op⟩ := o
      have hps := HI.ps
      rcases hps.2 with ⟨elv, h0⟩ | ⟨gp, capp, cur, elv, _, hg, hnc, hcm, hcs, htake⟩
      · have : d.p.length = 0 := h0
        omega
      rw [hpv] at elv
      have epa : pa = some ⟨gp, 0, none⟩ := by injection elv
      subst epa
      have htk : cur.toList.take (d.p.length * 3) = d.p.flatMap Op.cells := htake
      obtain ⟨k0, k1, k2⟩ := cells_of_take hg htk hlt
      rw [ho] at k0 k1 k2
      simp only at k0 k1 k2 hon hks hfa HFA
      clear hset fin hgo hsz hdrop hoin htk htake hcs hcm hnc elv hps hfb hfn h0
      have hB1 : Below W0.heap.size W0 (W0.alloc (.cells #[.string on, .string ob, .bool op] 73)) := (Below.refl _ W0).alloc (Nat.le_refl _) _
      have bx := (MapKept.heap_alloc W0 (.cells #[.string on, .string ob, .bool op] 73)).1
      obtain ⟨W1, hW1⟩ : ∃ W1, W1 = W0.alloc (.cells #[.string on, .string ob, .bool op] 73) := ⟨_, rfl⟩
      have hs1 : W0.heap.size < W1.heap.size := by rw [hW1]; simp
      go_wp2
      rw [← hW1] at hB1 bx ⊢
      have hown1 : W1.ownsRow w.heap.size 9 1 (.slice va lost.length vc) lost.length (lost.map Value.string) := own_grow hown hB1
      clear hW1
      go_loopw [7, 8] (fun v7 v8 wj => ∃ j : Nat, j ≤ lost.length ∧ v8 = .int .i64 (j : Int) ∧ v7 = .bool (gone on lost j) ∧ Below W1.heap.size W1 wj) (fun _ v8 _ => lost.length - (intOf v8).toNat)
      case atStart => exact ⟨0, Nat.zero_le _, rfl, rfl, Below.refl _ _⟩
      case round =>
        obtain ⟨j, hj, rfl, rfl, hBj⟩ := hrel
        have bxj := (hBj.block _ hs1).trans bx
        have x0 : wr.cell? ⟨W0.heap.size, 0, none⟩ = some (.string on) := (cell_of bxj 0).trans rfl
        have x1 : wr.cell? ⟨W0.heap.size, 1, none⟩ = some (.string ob) := (cell_of bxj 1).trans rfl
        have x2 : wr.cell? ⟨W0.heap.size, 2, none⟩ = some (.bool op) := (cell_of bxj 2).trans rfl
        by_cases hjl : j < lost.length
        · have hjz : decide ((j : Int) < (lost.length : Int)) = true := decide_eq_true (by omega)
          have hgn := gone_next (name := on) hjl
          have HGN := Aside0.mk hgn
          obtain ⟨gl, cl, hvv, hcl, hgl⟩ := str_cell hown1 hjl
          obtain ⟨rfl, rfl⟩ : va = some ⟨gl, 0, none⟩ ∧ vc = cl := by injection hvv with e1 e2 e3; exact ⟨e1, e3⟩
          clear hvv
          have hcl2 : wr.cell? ⟨gl, j, none⟩ = some (.string lost[j]) := (hBj.cell (p := ⟨gl, j, none⟩) hgl).trans hcl
          clear hgn hcl
          cases hg0 : gone on lost j with
          | true =>
            go_wp2
            go_region
            go_wp2
            exact ⟨⟨j + 1, by omega, by simp, by rw [HGN.out, hg0]; rfl, below_drew1 hBj⟩, by simp [intOf]; omega⟩
          | false =>
            cases hs : (lost[j].toList == on.toList) with
            | true =>
              go_wp2
              go_region
              go_wp2
              exact ⟨⟨j + 1, by omega, by simp, by rw [HGN.out, hg0, hs]; rfl, below_drew1 hBj⟩, by simp [intOf]; omega⟩
            | false =>
              go_wp2
              go_region
              go_wp2
              exact ⟨⟨j + 1, by omega, by simp, by rw [HGN.out, hg0, hs]; rfl, below_drew1 hBj⟩, by simp [intOf]; omega⟩
        · obtain rfl : j = lost.length := by omega
          have hjz : decide ((lost.length : Int) < (lost.length : Int)) = false := decide_eq_false (by omega)
          have hB5 : Below W0.heap.size W0 wr := hB1.trans (hBj.mono (Nat.le_of_lt hs1))
          have HI5 := HI.on hB5
          have HT5 := HT.trans (RTurn.of_below hB5)
          have hown5 := own_grow hown1 hBj
          have HFA5 := rat_calls HI5 on (by show l.length ≤ _; omega)
          rw [hfa] at HFA5
          have hws : w.heap.size ≤ wr.heap.size := HT5.size
          obtain ⟨_, c1r, _, _, _⟩ := HI5.c
          have hob : ob.size ≤ 1152921504606846976 := by omega
          have hhs : (ob.extract 0 (ob.size / 2)).size ≤ ob.size := half_size ob
          obtain ⟨hv, hhv⟩ : ∃ hv, ob.extract 0 (ob.size / 2) = hv := ⟨_, rfl⟩
          have HHV : Aside0 (half ob = hv) := ⟨hhv⟩
          rw [hhv] at hhs
          have hks2 : l[f].kept.size + hv.size ≤ 1152921504606846976 := by omega
          cases hga : gone on lost lost.length with
          | true =>
            go_wp2
            exact FIN.out wr _ lost l hown5 HI5 HT5 (.inl ⟨hga, rfl, rfl⟩)
          | false =>
            by_cases hbit : bitOf keep kk = true
            · obtain ⟨h64, hbv⟩ : kk < 64 ∧ (Go.bits .and .u64 (keep / 2 ^ kk) 1 == 1) = true := by
                simp only [bitOf, Bool.and_eq_true, decide_eq_true_eq] at hbit
                exact hbit
              have h64b : decide ((kk : Int) < 64) = true := decide_eq_true (by omega)
              cases op with
              | true =>
                obtain ⟨g, cap, hlv, x1', x2', x3', r2, r3, HIs, HTs⟩ := sync_store HI5 (k := f) hfl ob
                rw [hlv] at c1r
                go_wp2_with (go_at_call 31; with_reducible refine HFA5.mono ?_; rintro e w6 ⟨rfl, hw6⟩; replace hw6 := hw6.symm; subst hw6)
                go_region
                go_wp2
                have HT8 := HTs.trans (RTurn.of_below (below_drew1 (Below.refl _ _)))
                exact FIN.out _ _ _ _ (own_turn hown5 HF.out HT8) (HIs.on (below_drew1 (Below.refl _ _))) (HT5.trans HT8) (.inr ⟨hga, by unfold rcL; rw [hbit]; rfl, (HSET.out (kset ob)).symm.trans (by unfold rcF; rw [hbit]; rfl)⟩)
              | false =>
                obtain ⟨g, cap, hlv, x1', x2', x3', r2, r3, HIs, HTs⟩ := sync_store HI5 (k := f) hfl (l[f].kept ++ ob)
                rw [hlv] at c1r
                go_wp2_with (go_at_call 31; with_reducible refine HFA5.mono ?_; rintro e w6 ⟨rfl, hw6⟩; replace hw6 := hw6.symm; subst hw6)
                go_region
                go_wp2
                have HT8 := HTs.trans (RTurn.of_below (below_drew1 (Below.refl _ _)))
                exact FIN.out _ _ _ _ (own_turn hown5 HF.out HT8) (HIs.on (below_drew1 (Below.refl _ _))) (HT5.trans HT8) (.inr ⟨hga, by unfold rcL; rw [hbit]; rfl, (HSET.out (kadd ob)).symm.trans (by unfold rcF; rw [hbit]; rfl)⟩)
            · replace hbit : bitOf keep kk = false := by simpa using hbit
              have HW := Aside0.mk hown5
              have HI9' : Aside0 (∀ (x : Unit) (w9 : World), Below w.heap.size wr w9 → IsR w9 F { d with l := l }) := ⟨fun _ w9 hb => HI5.kept_ (fun k hk => hb.block k (HF.out k hk))⟩
              have HNE : Aside0 (some W0.heap.size ≠ (Value.slice va lost.length vc).ownBlock) := ⟨fun e => by have := (own_lt hown _ e.symm); omega⟩
              have HHBIT : Aside0 (bitOf keep kk = false) := ⟨hbit⟩
              have hs1r : W0.heap.size < wr.heap.size := Nat.lt_of_lt_of_le hs1 hBj.size
              have hbits : (kk < 64 ∧ decide ((kk : Int) < 64) = true ∧ (Go.bits .and .u64 (keep / 2 ^ kk) 1 == 1) = false) ∨ (¬ kk < 64 ∧ decide ((kk : Int) < 64) = false) := by
                by_cases h64 : kk < 64
                · refine .inl ⟨h64, decide_eq_true (by omega), ?_⟩
                  simpa [bitOf, h64] using hbit
                · exact .inr ⟨h64, decide_eq_false (by omega)⟩
              clear hbit hown5
              cases op with
              | true =>
                rcases hbits with ⟨h64, h64b, hbv⟩ | ⟨h64, h64b⟩
                all_goals
                  go_wp2_with (first
                | (go_at_call 31; with_reducible refine HFA5.mono ?_; rintro e w6 ⟨rfl, hw6⟩; replace hw6 := hw6.symm; subst hw6)
                | ((with_reducible refine gate_builtin (b := .append) (xs := #[.tmp 65, .tmp 68]) rfl ?_); at_builtin; (refine print_append_cells (w0 := wr) w.heap.size rfl (.tmp 65) (.tmp 68) 22 9 (.string ⟨#[]⟩) 1 16 rfl Try.underlying22 (by kernel_rfl) rfl (by decide) (by decide) (.slice va lost.length vc) lost.length _ [.string on] rfl rfl rfl (by intro u hu; simp at hu; subst hu; rfl) HW.out (Below.refl _ _) hws (by omega) ?_); intro v9 w9 hown9 hb9 hg9 hat9
                   obtain ⟨v9a, v9c, rfl⟩ := own_slice_ hown9
                   have HI9 := HI9'.out () w9 hb9
                   have bx9 := (hg9.block W0.heap.size (by omega) HNE.out).trans bxj
                   have y0 : w9.cell? ⟨W0.heap.size, 0, none⟩ = some (.string on) := (cell_of bx9 0).trans rfl
                   have y1 : w9.cell? ⟨W0.heap.size, 1, none⟩ = some (.string ob) := (cell_of bx9 1).trans rfl
                   have y2 : w9.cell? ⟨W0.heap.size, 2, none⟩ = some (.bool true) := (cell_of bx9 2).trans rfl
                   have HT9 := HT5.grow hb9; clear hb9 hg9 hat9 bx9))
                  exact FIN.out _ _ (lost ++ [on]) _ (by simpa using hown9) HI9 HT9 (.inr ⟨hga, by unfold rcL; simp [HHBIT.out], by unfold rcF; rw [HHBIT.out]; rfl⟩)
              | false =>
                by_cases hz : 0 < hv.size
                · have hz1 : decide (0 < hv.size) = true := decide_eq_true hz
                  have hz2 : decide ((0 : Int) < (hv.size : Int)) = true := decide_eq_true (by omega)
                  rcases hbits with ⟨h64, h64b, hbv⟩ | ⟨h64, h64b⟩
                  all_goals
                    go_wp2_with (first
                | (go_at_call 31; with_reducible refine HFA5.mono ?_; rintro e w6 ⟨rfl, hw6⟩; replace hw6 := hw6.symm; subst hw6)
                | ((with_reducible refine gate_builtin (b := .append) (xs := #[.tmp 65, .tmp 68]) rfl ?_); at_builtin; (refine print_append_cells (w0 := wr) w.heap.size rfl (.tmp 65) (.tmp 68) 22 9 (.string ⟨#[]⟩) 1 16 rfl Try.underlying22 (by kernel_rfl) rfl (by decide) (by decide) (.slice va lost.length vc) lost.length _ [.string on] rfl rfl rfl (by intro u hu; simp at hu; subst hu; rfl) HW.out (Below.refl _ _) hws (by omega) ?_); intro v9 w9 hown9 hb9 hg9 hat9
                   obtain ⟨v9a, v9c, rfl⟩ := own_slice_ hown9
                   have HI9 := HI9'.out () w9 hb9
                   have bx9 := (hg9.block W0.heap.size (by omega) HNE.out).trans bxj
                   have y0 : w9.cell? ⟨W0.heap.size, 0, none⟩ = some (.string on) := (cell_of bx9 0).trans rfl
                   have y1 : w9.cell? ⟨W0.heap.size, 1, none⟩ = some (.string ob) := (cell_of bx9 1).trans rfl
                   have y2 : w9.cell? ⟨W0.heap.size, 2, none⟩ = some (.bool false) := (cell_of bx9 2).trans rfl
                   have HT9 := HT5.grow hb9
                   obtain ⟨g, cap, hlv, x1', x2', x3', r2, r3, HIs, HTs⟩ := sync_store HI9 (k := f) hfl (l[f].kept ++ hv)
                   have c1s : w9.cell? ⟨F.g, 1, none⟩ = some (.slice (some ⟨g, 0, none⟩) l.length cap) := HI9.c.2.1.trans (by rw [hlv])
                   clear hb9 hg9 hat9 bx9))
                    go_region
                    go_wp2
                    have HT8 := HTs.trans (RTurn.of_below (below_drew1 (Below.refl _ _)))
                    exact FIN.out _ _ (lost ++ [on]) _ (by simpa using own_turn hown9 HF.out HT8) (HIs.on (below_drew1 (Below.refl _ _))) (HT9.trans HT8) (.inr ⟨hga, by unfold rcL; simp [HHBIT.out], (HSET.out (kadd hv)).symm.trans (by unfold rcF; rw [HHBIT.out, HHV.out, hz1]; rfl)⟩)
                · have hz1 : decide (0 < hv.size) = false := decide_eq_false hz
                  have hz2 : decide ((0 : Int) < (hv.size : Int)) = false := decide_eq_false (by omega)
                  rcases hbits with ⟨h64, h64b, hbv⟩ | ⟨h64, h64b⟩
                  all_goals
                    go_wp2_with (first
                | (go_at_call 31; with_reducible refine HFA5.mono ?_; rintro e w6 ⟨rfl, hw6⟩; replace hw6 := hw6.symm; subst hw6)
                | ((with_reducible refine gate_builtin (b := .append) (xs := #[.tmp 65, .tmp 68]) rfl ?_); at_builtin; (refine print_append_cells (w0 := wr) w.heap.size rfl (.tmp 65) (.tmp 68) 22 9 (.string ⟨#[]⟩) 1 16 rfl Try.underlying22 (by kernel_rfl) rfl (by decide) (by decide) (.slice va lost.length vc) lost.length _ [.string on] rfl rfl rfl (by intro u hu; simp at hu; subst hu; rfl) HW.out (Below.refl _ _) hws (by omega) ?_); intro v9 w9 hown9 hb9 hg9 hat9
                   obtain ⟨v9a, v9c, rfl⟩ := own_slice_ hown9
                   have HI9 := HI9'.out () w9 hb9
                   have bx9 := (hg9.block W0.heap.size (by omega) HNE.out).trans bxj
                   have y0 : w9.cell? ⟨W0.heap.size, 0, none⟩ = some (.string on) := (cell_of bx9 0).trans rfl
                   have y1 : w9.cell? ⟨W0.heap.size, 1, none⟩ = some (.string ob) := (cell_of bx9 1).trans rfl
                   have y2 : w9.cell? ⟨W0.heap.size, 2, none⟩ = some (.bool false) := (cell_of bx9 2).trans rfl
                   have HT9 := HT5.grow hb9; clear hb9 hg9 hat9 bx9))
                    exact FIN.out _ _ (lost ++ [on]) _ (by simpa using hown9) HI9 HT9 (.inr ⟨hga, by unfold rcL; simp [HHBIT.out], by unfold rcF; rw [HHBIT.out, HHV.out, hz1]; rfl⟩)
    · obtain rfl : kk = d.p.length := by omega
      have hltz : decide ((d.p.length : Int) < (d.p.length : Int)) = false := decide_eq_false (by omega)
      rw [List.drop_length] at hgo
      have hl : l = rcGo keep 0 d.l [] d.p := hgo
      have HL := Aside0.mk hl
      obtain ⟨ga, gc, hlv⟩ : ∃ a c, F.lv = .slice a l.length c := by
        obtain ⟨a, c, e⟩ := own_slice_ HI.ls
        exact ⟨a, c, e⟩
      have HF0 : Aside0 (∀ k, F.has k → k < W0.heap.size) := Aside0.mk HI.lt
      clear hl hgo hsz hown hnm
      go_wp2
      go_loopw [12, 13] (fun v12 v13 wr => ∃ ii : Nat, ii ≤ l.length ∧ v13 = .int .i64 (ii : Int) ∧ wr.ownsRow W0.heap.size 71 4 v12 (lc (l.take ii)).length ((lc (l.take ii)).flatMap Fl.cells) ∧ IsR wr F { d with l := mem l ii } ∧ RTurn W0 wr F F)
        (fun _ v13 _ => l.length - (intOf v13).toNat)
      case atStart => exact ⟨0, Nat.zero_le _, rfl, World.ownsRow_nil _ _ _ _, by rw [mem_zero]; exact HI, RTurn.refl _ _⟩
      case round =>
        obtain ⟨ii, hii, rfl, hrow, HI2, HT2⟩ := hrel
        have c1r : wr.cell? ⟨F.g, 1, none⟩ = some (.slice ga l.length gc) := HI2.c.2.1.trans (by rw [hlv])
        by_cases hil : ii < l.length
        · have hiz : decide ((ii : Int) < (l.length : Int)) = true := decide_eq_true (by omega)
          have hml : ii < (mem l ii).length := by rw [mem_len]; exact hil
          have hnx := lc_next hil
          obtain ⟨g, cap, hlv2, x1, x2, x3, r1, HI3, HT3⟩ := has_store HI2 (k := ii) hml (mem l ii)[ii].kept
          rw [hlv] at hlv2
          have hga : ga = some ⟨g, 0, none⟩ := by injection hlv2
          subst hga
          have hmg : (mem l ii)[ii] = l[ii] := mem_get hil
          simp only [hmg] at x1 x2 x3 HI3 HT3
          cases his : l[ii].is with
          | false =>
            have HM : Aside0 (mem l (ii + 1) = mem l ii) := ⟨mem_off hil his⟩
            have HN1 : Aside0 (lc (l.take (ii + 1)) = lc (l.take ii)) := ⟨by rw [hnx, his]; simp⟩
            rw [his] at x3
            clear hnx HI3 HT3 hmg
            go_wp2
            exact ⟨⟨ii + 1, by omega, by simp, by rw [HN1.out]; exact hrow, by rw [HM.out]; exact HI2, HT2⟩, by simp [intOf]; omega⟩
          | true =>
            have HM : (mem l ii).set ii (fhas l[ii]) = mem l (ii + 1) := mem_on hil his
            have HN1 : Aside0 (lc (l.take (ii + 1)) = lc (l.take ii) ++ [fhas l[ii]]) := ⟨by rw [hnx, his]; simp⟩
            have HI3' : IsR (wr.setCell ⟨g, ii * 4 + 1, none⟩ (.string l[ii].kept)) F { d with l := mem l (ii + 1) } := by rw [← HM]; exact HI3
            obtain ⟨W2, hW2⟩ : ∃ W2, W2 = (wr.setCell ⟨g, ii * 4 + 1, none⟩ (.string l[ii].kept)).drew := ⟨_, rfl⟩
            have HI4 : IsR W2 F { d with l := mem l (ii + 1) } := by rw [hW2]; exact HI3'.on (below_drew1 (Below.refl _ _))
            have HT4 : RTurn wr W2 F F := by rw [hW2]; exact HT3.trans (RTurn.of_below (below_drew1 (Below.refl _ _)))
            have hml4 : ii < (mem l (ii + 1)).length := by rw [mem_len]; exact hil
            have hme : (mem l (ii + 1))[ii] = fhas l[ii] := by
              have : (mem l (ii + 1))[ii]? = some (fhas l[ii]) := by rw [← HM, List.getElem?_set_self (by rw [mem_len]; exact hil)]
              rw [List.getElem?_eq_getElem hml4] at this
              exact Option.some.inj this
            have hF4 := HI4.file (k := ii) hml4 (g := g) (cap := gc) (by show F.lv = .slice _ (mem l (ii + 1)).length gc; rw [mem_len]; exact hlv)
            simp only [hme] at hF4
            obtain ⟨y0, y1, y2, y3⟩ := hF4
            have hrow4 := own_turn hrow HF0.out HT4
            have c1w : W2.cell? ⟨F.g, 1, none⟩ = some (.slice (some ⟨g, 0, none⟩) l.length gc) := HI4.c.2.1.trans (by rw [hlv])
            have hlcl : (lc (l.take ii)).length ≤ ii := Nat.le_trans (List.length_filterMap_le _ _) (by rw [List.length_take]; omega)
            have hWs : W0.heap.size ≤ W2.heap.size := Nat.le_trans HT2.size HT4.size
            simp only [fhas] at y0 y1 y2 y3
            rw [his] at x3 y3
            clear hnx HI3 HI3' HT3 hmg HM hme
            go_wp2
            go_region
            rw [← hW2]
            clear hW2
            go_wp2_with (first
              | ((with_reducible refine gate_builtin (b := .append) (xs := #[.tmp 166, .tmp 174]) rfl ?_); at_builtin; go_loud (refine print_append_cells (w0 := W2) W0.heap.size rfl (.tmp 166) (.tmp 174) 51 71 (.agg #[.string ⟨#[]⟩, .string ⟨#[]⟩, .string ⟨#[]⟩, .bool false]) 4 56 rfl Try.underlying51 (by kernel_rfl) rfl (by decide) (by decide) u12 (lc (l.take ii)).length _ [.string l[ii].name, .string l[ii].kept, .string l[ii].kept, .bool true] rfl rfl rfl (by intro u hu; simp at hu; rcases hu with rfl | rfl | rfl | rfl <;> rfl) hrow4 (Below.refl _ _) hWs (by omega) ?_); intro v9 w9 hown9 hb9 hg9 hat9))
            have HI9 : IsR w9 F { d with l := mem l (ii + 1) } := HI4.kept_ (fun k hk => hb9.block k (HF0.out k hk))
            refine ⟨⟨ii + 1, by omega, by simp, ?_, HI9, (HT2.trans HT4).grow hb9⟩, by simp [intOf]; omega⟩
            rw [HN1.out, List.length_append, List.flatMap_append]
            have : (fhas l[ii]).cells = [.string l[ii].name, .string l[ii].kept, .string l[ii].kept, .bool true] := by simp [fhas, Fl.cells, his]
            simpa [this] using hown9
        · obtain rfl : ii = l.length := by omega
          have hiz : decide ((l.length : Int) < (l.length : Int)) = false := decide_eq_false (by omega)
          rw [List.take_length] at hrow
          have hgF := HI2.lt _ (.inl rfl)
          have f1 := frozen_of HI2.st 1
          have f2 := frozen_of HI2.st 2
          have f4 := frozen_of HI2.st 4
          obtain ⟨_, _, c2r, _, c4r⟩ := HI2.c
          obtain ⟨ra, rc, rfl⟩ := own_slice_ hrow
          go_wp2
          go_end0
          have hW : ∀ v1 v2 v4 k, k ≠ F.g → (((wr.setCell ⟨F.g, 1, none⟩ v1).setCell ⟨F.g, 2, none⟩ v2).setCell ⟨F.g, 4, none⟩ v4).heap[k]? = wr.heap[k]? :=
            fun v1 v2 v4 k hk => (Below.heap_setCell _ _ _ k hk).trans ((Below.heap_setCell _ _ _ k hk).trans (Below.heap_setCell _ _ _ k hk))
          have hFg := HF0.out F.g (.inl rfl)
          have hHT := HT.trans HT2
          have hHs := HT.size
          refine ⟨rfl, ⟨F.g, .slice ra (lc l).length rc, .slice none 0 0⟩, ⟨?_, ?_, World.ownsRow_nil _ _ _ _⟩, ⟨hHT.os, hHT.tape, hHT.output, by simpa [World.setCell] using hHT.size, fun k hk hn => ?_, fun k hk => ?_, rfl⟩⟩
          · refine (Lib.heap_setCell_same (Lib.heap_setCell_same (Lib.heap_setCell_same HI2.st _) _) _).trans ?_
            simp [RF.cells, R.crashed]
          · show World.ownsRow _ 0 71 4 _ (lc (rcGo keep 0 d.l [] d.p)).length ((lc (rcGo keep 0 d.l [] d.p)).flatMap Fl.cells)
            rw [← HL.out]
            exact row_kept (own_zero hrow) (fun b e => hW _ _ _ b (fun e2 => by rcases own_base_ hrow with e3 | ⟨b', e3, hb'⟩; (rw [e3] at e; cases e); (rw [e3] at e; have := Option.some.inj e; omega)))
          · exact (hW _ _ _ k (fun e => hn (.inl e))).trans (hHT.block k hk hn)
          · rcases hk with e | e | e
            · exact .inl (.inl e)
            · rcases own_base_ hrow with e3 | ⟨b', e3, hb'⟩
              · have e4 : (Value.slice ra (lc l).length rc).ownBlock = some k := e
                rw [e3] at e4; cases e4
              · have e4 : (Value.slice ra (lc l).length rc).ownBlock = some k := e
                rw [e3] at e4
                have := Option.some.inj e4
                exact .inr (by omega)
            · cases e

end Go.Proofs.Ytocaihmadififaa.Dk
