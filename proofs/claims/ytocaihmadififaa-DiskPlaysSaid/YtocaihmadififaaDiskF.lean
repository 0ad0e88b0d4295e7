/- A disk as it lies in the heap; the small methods. -/
import Derived.Test.YtocaihmadififaaDiskE
import Derived.Test.YtocaihmadififaaMine
import Derived.Test.YtocaihmadififaaProg
import Derived.Below
import Derived.Lib.BufferMore
import Derived.OwnWalk
import Derived.Laws.MakeOwn
import Derived.Maps.AppendAt
import Derived.IntWalk
import Derived.MapKept
import Derived.Lib.SliceRun
import Derived.Laws.Externs
import Derived.Shelf.Abstract
import Derived.Deep.LoopGhost
import Derived.Deep.RegionLaw
import Derived.StringKeys
import Derived.Maps.RangeWalk
import Derived.Tactics
import Derived.WalkKit
import Derived.KernelRfl
import Derived.RowKit3
import Derived.RowKit
import Derived.WalkMore
import Derived.Deep.QuietTactic
import Derived.BigQuiet
import Derived.WideLaws
import Derived.Deep.DeepCutAuto
import Derived.OrdersHeld
import Derived.Test.YtocaihmadififaaWWords
import Derived.Test.YtocaihmadififaaWLast
import Derived.Test.YtocaihmadififaaWFour
import Derived.Test.YtocaihmadififaaWMore
namespace Go.Proofs.Ytocaihmadififaa.Dk
open Go.RowKit Go.Maps Go.Proofs.YtocaihmadififaaW.PrintWords Go.Proofs.YtocaihmadififaaW.PrintLast Go.Proofs.YtocaihmadififaaW.PrintMore
set_option linter.unusedVariables false
set_option linter.unusedSimpArgs false

/-! ### Crash -/
def bitOf (keep : Int) (i : Nat) : Bool := decide (i < 64) && (Go.bits .and .u64 (keep / 2 ^ i) 1 == 1)
def half (b : ByteArray) : ByteArray := b.extract 0 (b.size / 2)
def crash1 (keep : Int) (i : Nat) (o : Op) (m : M) (st : ByteArray → Bool) : M :=
  if st o.name then m
  else if bitOf keep i && o.put then m.put o.name o.b
  else if bitOf keep i then m.put o.name (m.at o.name ++ o.b)
  else if !o.put && !(half o.b).toList.isEmpty then m.put o.name (m.at o.name ++ half o.b)
  else m
def stuck1 (keep : Int) (i : Nat) (o : Op) (st : ByteArray → Bool) : ByteArray → Bool := fun k => if k = o.name then st o.name || !bitOf keep i else st k
def crashGo (keep : Int) (i : Nat) (m : M) (st : ByteArray → Bool) : List Op → M
  | [] => m
  | o :: r => crashGo keep (i + 1) (crash1 keep i o m st) (stuck1 keep i o st) r
def D.crash (d : D) (keep : Int) : D :=
  let m := crashGo keep 0 d.kept (fun _ => false) d.pend
  { d with kept := m, kn := d.kn + d.pend.length, now := m, nn := d.kn + d.pend.length, pend := [], left := -1 }
def sumB : List Op → Nat
  | [] => 0
  | o :: r => o.b.size + sumB r

abbrev stuckAt (w : World) (b n : Nat) (st : ByteArray → Bool) : Prop := ∃ x : DU, w.ownsMap Try.prog 9 (plainElem Try.prog 4) b n x ∧ ∀ k, x.atKey (kl k) (.lit (.bool false)) = .lit (.bool (st k))
theorem plainElem_bool_inv {v : Value} {z : DU × List MemPlace} (h : plainElem Try.prog 4 v = some z) : ∃ x : Bool, v = .bool x ∧ z = (.lit (.bool x), []) := by
  unfold plainElem at h
  rw [Try.underlying4] at h
  cases v <;> simp at h
  exact ⟨_, rfl, h.symm⟩
theorem zeroB (w : World) : (zeroValue 4).run Try.prog w = .ok (.bool false) w := by kernel_rfl
theorem stuckAt.look {w : World} {b n : Nat} {st : ByteArray → Bool} (h : stuckAt w b n st) {k : ByteArray} (hk : k.size ≤ maxLen) :
    (Instr.lookup 67 (.map (some b)) (.string k) false).run Try.prog w = .ok (.bool (st k)) w := by
  obtain ⟨x, ho, hs⟩ := h
  obtain ⟨v, ps, hr, hv⟩ := ho.lookup law9 Try.underlying67 (zeroB w) (plainElem_bool Try.underlying4 false) (WideMaps.keyOf_string_mk Try.underlying9 hk)
  obtain ⟨c, rfl, hc⟩ := plainElem_bool_inv hv
  have h1 : x.atKey (kl k) (.lit (.bool false)) = .lit (.bool c) := congrArg Prod.fst hc
  rw [hs k] at h1
  cases h1
  exact hr

theorem half_size (b : ByteArray) : (half b).size ≤ b.size := by
  unfold half
  rw [ByteArray.size_extract]
  omega
theorem M.put_tot {m : M} {k v : ByteArray} (h : (m.at k).size ≤ m.tot) : (m.put k v).tot + (m.at k).size = m.tot + v.size := by
  simp only [M.put]; omega
theorem crash1_tot {keep : Int} {i : Nat} {o : Op} {m : M} {st : ByteArray → Bool} (h : (m.at o.name).size ≤ m.tot) : (crash1 keep i o m st).tot ≤ m.tot + o.b.size := by
  have h1 := half_size o.b
  unfold crash1
  split
  · omega
  · split
    · have := M.put_tot (v := o.b) h; omega
    · split
      · have := M.put_tot (v := m.at o.name ++ o.b) h; rw [ByteArray.size_append] at this; omega
      · split
        · have := M.put_tot (v := m.at o.name ++ half o.b) h; rw [ByteArray.size_append] at this; omega
        · omega
theorem mapAt.mono {w : World} {b n n' : Nat} {m : M} (h : mapAt w b n m) (hn : n ≤ n') : mapAt w b n' m := by
  obtain ⟨x, ho, hs⟩ := h
  exact ⟨x, ho.mono hn, hs⟩
theorem stuck_put {w : World} {b n : Nat} {x : DU} {st : ByteArray → Bool} {k0 : ByteArray} {v : Bool} (hm : IsMap x) (hx : ∀ k, x.atKey (kl k) (.lit (.bool false)) = .lit (.bool (st k))) (ho : w.ownsMap Try.prog 9 (plainElem Try.prog 4) b n (x.put (kl k0) (.lit (.bool v)))) :
    stuckAt w b n (fun k => if k = k0 then v else st k) := by
  refine ⟨_, ho, fun k => ?_⟩
  by_cases e : k = k0
  · subst e
    exact (atKey_put_same hm (kl_key _) _ _).trans (by simp)
  · exact (atKey_put_other (fun e2 => e (kl_inj e2)) _ _).trans ((hx k).trans (by simp [e]))

set_option maxHeartbeats 4000000 in
set_option maxRecDepth 100000 in
theorem crash_calls {w : World} {F : Foot} {d : D} (HD : IsDisk w F d) (hf : d.Fit) (keep : Int) (hk0 : 0 ≤ keep) (hk1 : keep ≤ 18446744073709551615) (hsz : d.kept.tot + sumB d.pend ≤ 1152921504606846976) (hnm : ∀ o ∈ d.pend, o.name.size ≤ 1152921504606846976) :
    Calls Try.prog 12 #[.pointer (some ⟨F.g, 0, none⟩), .int .u64 keep] w fun e w' => e = .returned (.tuple #[]) ∧ ∃ F', IsDisk w' F' (d.crash keep) ∧ Turn w w' F F' := by
  have hmm := @run_makeMap Try.prog
  have hltF := HD.lt
  have HD1 := HD.alloc (.map #[] 0)
  obtain ⟨_, _, _, c3, _, _⟩ := HD1.c
  have hst0 : stuckAt (w.alloc (.map #[] 0)) w.heap.size 0 (fun _ => false) := ⟨.map [], World.ownsMap_made w _ _ _, fun _ => rfl⟩
  obtain ⟨R, hR⟩ : ∃ R, Aside0 (R = d.crash keep) := ⟨_, Aside0.mk rfl⟩
  rw [← hR.out]
  have hlen := hf.pend
  obtain ⟨a0, n0, cap, hpv⟩ := row_slice HD.pend
  have hn0 : n0 = d.pend.length := by
    have h2 := HD.pend.2
    rw [hpv] at h2
    rcases h2 with ⟨e, h⟩ | ⟨g, cap, cur, e, _⟩
    · cases e; exact h.symm
    · cases e; rfl
  subst hn0
  rw [hpv] at c3
  go_enter Try.func12, Try.ntmps12
  go_wp2
  go_loopw [15] (fun v15 wr => ∃ (kk : Nat) (m : M) (st : ByteArray → Bool), kk ≤ d.pend.length ∧ v15 = .int .i64 (kk : Int) ∧ mapAt wr F.kb (d.kn + kk) m ∧ stuckAt wr w.heap.size kk st ∧ w.grownBy wr (some F.kb) ∧ w.heap.size < wr.heap.size ∧
      m.tot + sumB (d.pend.drop kk) ≤ 1152921504606846976 ∧ Aside0 (crashGo keep kk m st (d.pend.drop kk) = crashGo keep 0 d.kept (fun _ => false) d.pend))
    (fun v15 _ => d.pend.length - (intOf v15).toNat)
  case atStart => exact ⟨0, d.kept, _, Nat.zero_le _, rfl, HD1.kept, hst0, World.grownBy_alloc _ _ _, by simp, hsz, Aside0.mk rfl⟩
  case round =>
    obtain ⟨kk, m, st, hkk, rfl, hkm, hsm, hgr, hws, htot, hA⟩ := hrel
    by_cases hlt : kk < d.pend.length
    · have hltz : decide ((kk : Int) < (d.pend.length : Int)) = true := decide_eq_true (by omega)
      have pk := HD.pk
      rcases HD.pend.2 with ⟨e, h0⟩ | ⟨g, cap2, cur, e, _, hg, hnc, hcm, hcs, htake⟩
      · omega
      rw [hpv] at e
      cases e
      have hgl : g < w.heap.size := (Array.getElem?_eq_some_iff.1 hg).1
      have hgb : g ≠ F.kb := fun e => pk.1 (by rw [hpv, e]; rfl)
      have hgr1 : wr.heap[g]? = some (.cells cur 62 (0, 0)) := (hgr.block g hgl (fun e => hgb (Option.some.inj e))).trans hg
      obtain ⟨k0, k1, k2⟩ := cells_of_take hgr1 htake hlt
      have HO : ∃ o, Aside0 (d.pend[kk] = o) := ⟨_, Aside0.mk rfl⟩
      obtain ⟨o, HO⟩ := HO
      rw [HO.out] at k0 k1 k2
      obtain ⟨on, ob, op⟩ := o
      simp only at k0 k1 k2
      have hdrop : d.pend.drop kk = ⟨on, ob, op⟩ :: d.pend.drop (kk + 1) := by rw [List.drop_eq_getElem_cons hlt, HO.out]
      have hno : on.size ≤ 1152921504606846976 := hnm ⟨on, ob, op⟩ (by rw [← HO.out]; exact List.getElem_mem hlt)
      rw [hdrop] at htot hA
      clear hdrop hnm
      have hno2 : on.size ≤ maxLen := Nat.le_trans hno (by simp [maxLen])
      have hob : ob.size ≤ 1152921504606846976 := by have : ob.size + sumB (d.pend.drop (kk + 1)) = sumB (⟨on, ob, op⟩ :: d.pend.drop (kk + 1)) := rfl; omega
      have hB2 : Below wr.heap.size wr (wr.alloc (.cells #[.string on, .string ob, .bool op] 62)) := (Below.refl _ wr).alloc (Nat.le_refl _) _
      have hkb : F.kb < w.heap.size := hltF _ (.inr (.inl rfl))
      have hsr := hgr.size
      have hgw : F.g < w.heap.size := hltF _ (.inl rfl)
      have gk := HD.gk
      have hkm2 : mapAt (wr.alloc (.cells #[.string on, .string ob, .bool op] 62)) F.kb (d.kn + kk) m := hkm.kept (hB2.block _ (by omega))
      have hsm2 : stuckAt (wr.alloc (.cells #[.string on, .string ob, .bool op] 62)) w.heap.size kk st := by
        obtain ⟨x, ho, hx⟩ := hsm
        exact ⟨x, ho.alloc _, hx⟩
      have hst2 : (wr.alloc (.cells #[.string on, .string ob, .bool op] 62)).heap[F.g]? = some (.cells (F.cells d) 59 (0, 0)) := (hB2.block _ (by omega)).trans ((hgr.block _ hgw (fun e => gk.1 (Option.some.inj e))).trans HD.st)
      have c1 : (wr.alloc (.cells #[.string on, .string ob, .bool op] 62)).cell? ⟨F.g, 1, none⟩ = some (.map (some F.kb)) := (cell_of hst2 1).trans rfl
      have hlS := hsm2.look hno2
      have hlK := hkm2.look hno2
      have hlK2 := (show mapAt (wr.alloc (.cells #[.string on, .string ob, .bool op] 62)).drew F.kb (d.kn + kk) m from hkm2).look hno2
      have hg2 : w.grownBy (wr.alloc (.cells #[.string on, .string ob, .bool op] 62)) (some F.kb) := below_grown hgr hB2
      have hkey := WideMaps.keyOf_string_mk Try.underlying9 hno2
      obtain ⟨xs, hownS, hxs⟩ := hsm2
      have hmt : (m.at on).size ≤ m.tot := by
        obtain ⟨x, ho, hs⟩ := hkm
        exact hs.le (ho.tidy law9) on
      have hsd : ob.size + sumB (d.pend.drop (kk + 1)) = sumB (⟨on, ob, op⟩ :: d.pend.drop (kk + 1)) := rfl
      rw [← hsd] at htot
      have hISM := hownS.isMap
      have hhs : (ob.extract 0 (ob.size / 2)).size ≤ ob.size := half_size ob
      have HX := Aside0.mk hxs
      clear hxs
      have fin : ∀ (wm w5 : World) (v : Bool), mapAt wm F.kb (d.kn + kk + 1) (crash1 keep kk ⟨on, ob, op⟩ m st) → wm.grownBy w5 (some w.heap.size) → w5.ownsMap Try.prog 9 (plainElem Try.prog 4) w.heap.size (kk + 1) (xs.put (kl on) (.lit (.bool v))) → w.grownBy wm (some F.kb) → wr.heap.size ≤ wm.heap.size → v = (st on || !bitOf keep kk) →
          (∃ (kk_1 : Nat) (m : M) (st : ByteArray → Bool), kk_1 ≤ d.pend.length ∧ Value.int IntKind.i64 ((kk : Int) + 1) = Value.int IntKind.i64 (kk_1 : Int) ∧ mapAt w5 F.kb (d.kn + kk_1) m ∧ stuckAt w5 w.heap.size kk_1 st ∧ w.grownBy w5 (some F.kb) ∧ w.heap.size < w5.heap.size ∧
            m.tot + sumB (d.pend.drop kk_1) ≤ 1152921504606846976 ∧ Aside0 (crashGo keep kk_1 m st (d.pend.drop kk_1) = crashGo keep 0 d.kept (fun _ => false) d.pend)) ∧
          d.pend.length - (intOf (Value.int IntKind.i64 ((kk : Int) + 1))).toNat < d.pend.length - (intOf (Value.int IntKind.i64 (kk : Int))).toNat := by
        intro wm w5 v hm hg5 ho5 hgm hsz5 hv
        have hct : (crash1 keep kk ⟨on, ob, op⟩ m st).tot ≤ m.tot + ob.size := crash1_tot (keep := keep) (i := kk) (st := st) (o := ⟨on, ob, op⟩) hmt
        have h5 := hg5.size
        refine ⟨⟨kk + 1, crash1 keep kk ⟨on, ob, op⟩ m st, stuck1 keep kk ⟨on, ob, op⟩ st, by omega, by simp, hm.kept (hg5.block _ (by omega) (fun e => by have := Option.some.inj e; omega)), ?_, hgm.andThen hg5 (fun j hj => by cases hj; exact .inl (Nat.le_refl _)), by omega, by omega, Aside0.mk hA.out⟩, by simp [intOf]; omega⟩
        have := stuck_put hISM HX.out ho5
        rw [hv] at this
        exact this
      cases hstu : st on with
      | true =>
        rw [hstu] at hlS
        go_wp2_with (first
          | (at_mapUpdate; refine wpList_mapUpdate_own _ rfl _ _ _ 67 rfl 9 4 law9 Try.underlying67 _ w.heap.size kk xs rfl hownS (by unfold maxLen; omega) _ _ _ rfl rfl hkey (.lit (.bool true)) [] (plainElem_bool Try.underlying4 true) ?_; intro w5 hown5 hg5)
          | go_in)
        all_goals exact fin _ w5 _ (by rw [show crash1 keep kk ⟨on, ob, op⟩ m st = m by simp only [crash1, hstu, if_true]]; exact hkm2.mono (by omega)) hg5 hown5 hg2 hB2.size (by simp [hstu])
      | false =>
        rw [hstu] at hlS
        by_cases h64 : kk < 64
        · have h64b : decide ((kk : Int) < 64) = true := decide_eq_true (by omega)
          cases hbv : (Go.bits .and .u64 (keep / 2 ^ kk) 1 == 1) with
          | true =>
            have hbit : bitOf keep kk = true := by simp only [bitOf, hbv, Bool.and_true]; exact decide_eq_true h64
            cases op with
            | true =>
              obtain ⟨xk, hko, hks⟩ := hkm2
              obtain ⟨w3, hmu, hown3, hg3⟩ := (show (wr.alloc (.cells #[.string on, .string ob, .bool true] 62)).drew.ownsMap Try.prog 9 (plainElem Try.prog 9) F.kb (d.kn + kk) xk from hko).update law9 Try.underlying56 (by have := hf.kn; unfold maxLen; omega) hkey (plainElem_string (s := ob) Try.underlying9 (by unfold maxLen; omega))
              have hg3' := undrew hg3
              have hownS3 := hownS.kept hg3' (fun e => by have := Option.some.inj e; omega)
              have hlS3 := (show stuckAt w3 w.heap.size kk st from ⟨xs, hownS3, HX.out⟩).look hno2
              rw [hstu] at hlS3
              have hm3 : mapAt w3 F.kb (d.kn + kk + 1) (crash1 keep kk ⟨on, ob, true⟩ m st) := by
                rw [show crash1 keep kk ⟨on, ob, true⟩ m st = m.put on (ob) by simp only [crash1, hstu, hbit, Bool.false_eq_true, if_false, if_true, Bool.false_and, Bool.true_and, Bool.and_false, Bool.and_true, Bool.not_false, Bool.not_true, Bool.and_self]]
                exact ⟨_, hown3, hks.put (hko.tidy law9) _ _⟩
              have hst3 := (hg3'.block F.g (by have := hB2.size; omega) (fun e => gk.1 (Option.some.inj e))).trans hst2
              have hg3w : w.grownBy w3 (some F.kb) := hg2.andThen hg3' (fun j hj => .inr hj)
              have bx3 := (hg3'.block wr.heap.size (by simp) (fun e => by have := Option.some.inj e; omega)).trans (MapKept.heap_alloc wr (.cells #[.string on, .string ob, .bool true] 62)).1
              have x30 := (cell_of bx3 0).trans (rfl : _ = some (Value.string on))
              go_wp2
              go_region
              go_wp2_with (first
                | (at_mapUpdate; refine wpList_mapUpdate_own _ rfl _ _ _ 67 rfl 9 4 law9 Try.underlying67 _ w.heap.size kk xs rfl hownS3 (by unfold maxLen; omega) _ _ _ rfl rfl hkey (.lit (.bool false)) [] (plainElem_bool Try.underlying4 false) ?_; intro w5 hown5 hg5)
                | go_in)
              exact fin w3 w5 _ hm3 hg5 hown5 hg3w (Nat.le_trans hB2.size hg3'.size) (by simp [hstu, hbit])
            | false =>
              obtain ⟨xk, hko, hks⟩ := hkm2
              obtain ⟨w3, hmu, hown3, hg3⟩ := (show (wr.alloc (.cells #[.string on, .string ob, .bool false] 62)).drew.ownsMap Try.prog 9 (plainElem Try.prog 9) F.kb (d.kn + kk) xk from hko).update law9 Try.underlying56 (by have := hf.kn; unfold maxLen; omega) hkey (plainElem_string (s := m.at on ++ ob) Try.underlying9 (by rw [ByteArray.size_append]; unfold maxLen; omega))
              have hg3' := undrew hg3
              have hownS3 := hownS.kept hg3' (fun e => by have := Option.some.inj e; omega)
              have hlS3 := (show stuckAt w3 w.heap.size kk st from ⟨xs, hownS3, HX.out⟩).look hno2
              rw [hstu] at hlS3
              have hm3 : mapAt w3 F.kb (d.kn + kk + 1) (crash1 keep kk ⟨on, ob, false⟩ m st) := by
                rw [show crash1 keep kk ⟨on, ob, false⟩ m st = m.put on (m.at on ++ ob) by simp only [crash1, hstu, hbit, Bool.false_eq_true, if_false, if_true, Bool.false_and, Bool.true_and, Bool.and_false, Bool.and_true, Bool.not_false, Bool.not_true, Bool.and_self]]
                exact ⟨_, hown3, hks.put (hko.tidy law9) _ _⟩
              have hst3 := (hg3'.block F.g (by have := hB2.size; omega) (fun e => gk.1 (Option.some.inj e))).trans hst2
              have hg3w : w.grownBy w3 (some F.kb) := hg2.andThen hg3' (fun j hj => .inr hj)
              have bx3 := (hg3'.block wr.heap.size (by simp) (fun e => by have := Option.some.inj e; omega)).trans (MapKept.heap_alloc wr (.cells #[.string on, .string ob, .bool false] 62)).1
              have x30 := (cell_of bx3 0).trans (rfl : _ = some (Value.string on))
              go_wp2
              go_region
              go_wp2_with (first
                | (at_mapUpdate; refine wpList_mapUpdate_own _ rfl _ _ _ 67 rfl 9 4 law9 Try.underlying67 _ w.heap.size kk xs rfl hownS3 (by unfold maxLen; omega) _ _ _ rfl rfl hkey (.lit (.bool false)) [] (plainElem_bool Try.underlying4 false) ?_; intro w5 hown5 hg5)
                | go_in)
              exact fin w3 w5 _ hm3 hg5 hown5 hg3w (Nat.le_trans hB2.size hg3'.size) (by simp [hstu, hbit])
          | false =>
            have hbit : bitOf keep kk = false := by simp only [bitOf, hbv, Bool.and_false]
            cases op with
            | true =>
              go_wp2_with (first
                | (at_mapUpdate; refine wpList_mapUpdate_own _ rfl _ _ _ 67 rfl 9 4 law9 Try.underlying67 _ w.heap.size kk xs rfl hownS (by unfold maxLen; omega) _ _ _ rfl rfl hkey (.lit (.bool true)) [] (plainElem_bool Try.underlying4 true) ?_; intro w5 hown5 hg5)
                | go_in)
              exact fin _ w5 _ (by rw [show crash1 keep kk ⟨on, ob, true⟩ m st = m by simp only [crash1, hstu, hbit, Bool.false_eq_true, if_false, if_true, Bool.false_and, Bool.true_and, Bool.and_false, Bool.and_true, Bool.not_false, Bool.not_true, Bool.and_self]]; exact hkm2.mono (by omega)) hg5 hown5 hg2 hB2.size (by simp [hstu, hbit])
            | false =>
              cases hh : (ob.extract 0 (ob.size / 2)).toList.isEmpty with
              | true =>
                go_wp2_with (first
                  | (at_mapUpdate; refine wpList_mapUpdate_own _ rfl _ _ _ 67 rfl 9 4 law9 Try.underlying67 _ w.heap.size kk xs rfl hownS (by unfold maxLen; omega) _ _ _ rfl rfl hkey (.lit (.bool true)) [] (plainElem_bool Try.underlying4 true) ?_; intro w5 hown5 hg5)
                  | go_in)
                exact fin _ w5 _ (by rw [show crash1 keep kk ⟨on, ob, false⟩ m st = m by simp only [crash1, half, hstu, hbit, hh, Bool.false_eq_true, if_false, if_true, Bool.false_and, Bool.true_and, Bool.and_false, Bool.and_true, Bool.not_false, Bool.not_true, Bool.and_self]]; exact hkm2.mono (by omega)) hg5 hown5 hg2 hB2.size (by simp [hstu, hbit])
              | false =>
                obtain ⟨xk, hko, hks⟩ := hkm2
                obtain ⟨w3, hmu, hown3, hg3⟩ := (show (wr.alloc (.cells #[.string on, .string ob, .bool false] 62)).drew.ownsMap Try.prog 9 (plainElem Try.prog 9) F.kb (d.kn + kk) xk from hko).update law9 Try.underlying56 (by have := hf.kn; unfold maxLen; omega) hkey (plainElem_string (s := m.at on ++ ob.extract 0 (ob.size / 2)) Try.underlying9 (by rw [ByteArray.size_append]; unfold maxLen; omega))
                have hg3' := undrew hg3
                have hownS3 := hownS.kept hg3' (fun e => by have := Option.some.inj e; omega)
                have hlS3 := (show stuckAt w3 w.heap.size kk st from ⟨xs, hownS3, HX.out⟩).look hno2
                rw [hstu] at hlS3
                have hm3 : mapAt w3 F.kb (d.kn + kk + 1) (crash1 keep kk ⟨on, ob, false⟩ m st) := by
                  rw [show crash1 keep kk ⟨on, ob, false⟩ m st = m.put on (m.at on ++ ob.extract 0 (ob.size / 2)) by simp only [crash1, half, hstu, hbit, hh, Bool.false_eq_true, if_false, if_true, Bool.false_and, Bool.true_and, Bool.and_false, Bool.and_true, Bool.not_false, Bool.not_true, Bool.and_self]]
                  exact ⟨_, hown3, hks.put (hko.tidy law9) _ _⟩
                have hst3 := (hg3'.block F.g (by have := hB2.size; omega) (fun e => gk.1 (Option.some.inj e))).trans hst2
                have hg3w : w.grownBy w3 (some F.kb) := hg2.andThen hg3' (fun j hj => .inr hj)
                have bx3 := (hg3'.block wr.heap.size (by simp) (fun e => by have := Option.some.inj e; omega)).trans (MapKept.heap_alloc wr (.cells #[.string on, .string ob, .bool false] 62)).1
                have x30 := (cell_of bx3 0).trans (rfl : _ = some (Value.string on))
                go_wp2
                go_region
                go_wp2_with (first
                  | (at_mapUpdate; refine wpList_mapUpdate_own _ rfl _ _ _ 67 rfl 9 4 law9 Try.underlying67 _ w.heap.size kk xs rfl hownS3 (by unfold maxLen; omega) _ _ _ rfl rfl hkey (.lit (.bool true)) [] (plainElem_bool Try.underlying4 true) ?_; intro w5 hown5 hg5)
                  | go_in)
                exact fin w3 w5 _ hm3 hg5 hown5 hg3w (Nat.le_trans hB2.size hg3'.size) (by simp [hstu, hbit])
        · have h64b : decide ((kk : Int) < 64) = false := decide_eq_false (by omega)
          have hbit : bitOf keep kk = false := by simp only [bitOf, decide_eq_false h64, Bool.false_and]
          cases op with
          | true =>
            go_wp2_with (first
              | (at_mapUpdate; refine wpList_mapUpdate_own _ rfl _ _ _ 67 rfl 9 4 law9 Try.underlying67 _ w.heap.size kk xs rfl hownS (by unfold maxLen; omega) _ _ _ rfl rfl hkey (.lit (.bool true)) [] (plainElem_bool Try.underlying4 true) ?_; intro w5 hown5 hg5)
              | go_in)
            exact fin _ w5 _ (by rw [show crash1 keep kk ⟨on, ob, true⟩ m st = m by simp only [crash1, hstu, hbit, Bool.false_eq_true, if_false, if_true, Bool.false_and, Bool.true_and, Bool.and_false, Bool.and_true, Bool.not_false, Bool.not_true, Bool.and_self]]; exact hkm2.mono (by omega)) hg5 hown5 hg2 hB2.size (by simp [hstu, hbit])
          | false =>
            cases hh : (ob.extract 0 (ob.size / 2)).toList.isEmpty with
            | true =>
              go_wp2_with (first
                | (at_mapUpdate; refine wpList_mapUpdate_own _ rfl _ _ _ 67 rfl 9 4 law9 Try.underlying67 _ w.heap.size kk xs rfl hownS (by unfold maxLen; omega) _ _ _ rfl rfl hkey (.lit (.bool true)) [] (plainElem_bool Try.underlying4 true) ?_; intro w5 hown5 hg5)
                | go_in)
              exact fin _ w5 _ (by rw [show crash1 keep kk ⟨on, ob, false⟩ m st = m by simp only [crash1, half, hstu, hbit, hh, Bool.false_eq_true, if_false, if_true, Bool.false_and, Bool.true_and, Bool.and_false, Bool.and_true, Bool.not_false, Bool.not_true, Bool.and_self]]; exact hkm2.mono (by omega)) hg5 hown5 hg2 hB2.size (by simp [hstu, hbit])
            | false =>
              obtain ⟨xk, hko, hks⟩ := hkm2
              obtain ⟨w3, hmu, hown3, hg3⟩ := (show (wr.alloc (.cells #[.string on, .string ob, .bool false] 62)).drew.ownsMap Try.prog 9 (plainElem Try.prog 9) F.kb (d.kn + kk) xk from hko).update law9 Try.underlying56 (by have := hf.kn; unfold maxLen; omega) hkey (plainElem_string (s := m.at on ++ ob.extract 0 (ob.size / 2)) Try.underlying9 (by rw [ByteArray.size_append]; unfold maxLen; omega))
              have hg3' := undrew hg3
              have hownS3 := hownS.kept hg3' (fun e => by have := Option.some.inj e; omega)
              have hlS3 := (show stuckAt w3 w.heap.size kk st from ⟨xs, hownS3, HX.out⟩).look hno2
              rw [hstu] at hlS3
              have hm3 : mapAt w3 F.kb (d.kn + kk + 1) (crash1 keep kk ⟨on, ob, false⟩ m st) := by
                rw [show crash1 keep kk ⟨on, ob, false⟩ m st = m.put on (m.at on ++ ob.extract 0 (ob.size / 2)) by simp only [crash1, half, hstu, hbit, hh, Bool.false_eq_true, if_false, if_true, Bool.false_and, Bool.true_and, Bool.and_false, Bool.and_true, Bool.not_false, Bool.not_true, Bool.and_self]]
                exact ⟨_, hown3, hks.put (hko.tidy law9) _ _⟩
              have hst3 := (hg3'.block F.g (by have := hB2.size; omega) (fun e => gk.1 (Option.some.inj e))).trans hst2
              have hg3w : w.grownBy w3 (some F.kb) := hg2.andThen hg3' (fun j hj => .inr hj)
              have bx3 := (hg3'.block wr.heap.size (by simp) (fun e => by have := Option.some.inj e; omega)).trans (MapKept.heap_alloc wr (.cells #[.string on, .string ob, .bool false] 62)).1
              have x30 := (cell_of bx3 0).trans (rfl : _ = some (Value.string on))
              go_wp2
              go_region
              go_wp2_with (first
                | (at_mapUpdate; refine wpList_mapUpdate_own _ rfl _ _ _ 67 rfl 9 4 law9 Try.underlying67 _ w.heap.size kk xs rfl hownS3 (by unfold maxLen; omega) _ _ _ rfl rfl hkey (.lit (.bool true)) [] (plainElem_bool Try.underlying4 true) ?_; intro w5 hown5 hg5)
                | go_in)
              exact fin w3 w5 _ hm3 hg5 hown5 hg3w (Nat.le_trans hB2.size hg3'.size) (by simp [hstu, hbit])
    · have hltz : decide ((kk : Int) < (d.pend.length : Int)) = false := decide_eq_false (by omega)
      obtain rfl : kk = d.pend.length := by omega
      have hm : m = crashGo keep 0 d.kept (fun _ => false) d.pend := by
        have := hA.out
        rw [List.drop_length] at this
        exact this
      have gk := HD.gk
      have pk := HD.pk
      have hgw : F.g < w.heap.size := hltF _ (.inl rfl)
      have hkb : F.kb < w.heap.size := hltF _ (.inr (.inl rfl))
      have hst : wr.heap[F.g]? = some (.cells (F.cells d) 59 (0, 0)) := (hgr.block _ hgw (fun e => gk.1 (Option.some.inj e))).trans HD.st
      have c1 : wr.cell? ⟨F.g, 1, none⟩ = some (.map (some F.kb)) := (cell_of hst 1).trans rfl
      have hcl := clone_calls hkm
      clear hA hsm htot
      go_wp2_with (go_at_call 29; refine hcl.mono ?_; rintro e w6 ⟨rfl, hm6, hb6⟩
                   have hst6 := (hb6.block F.g (by omega)).trans hst
                   have q2 := (cell_of hst6 2).trans (rfl : _ = some (Value.map (some F.nb)))
                   have q3 := (cell_of hst6 3).trans (rfl : _ = some F.pv)
                   have q5 := (cell_of hst6 5).trans (rfl : _ = some (Value.int IntKind.i64 d.left))
                   have f2 := frozen_of hst6 2
                   have f3 := frozen_of hst6 3
                   have f5 := frozen_of hst6 5)
      go_end0
      obtain rfl : R = d.crash keep := hR.out
      have h6 := hb6.size
      have hs6 : wr.heap.size < w6.heap.size := by obtain ⟨_, o, _⟩ := hm6; exact o.lt
      have hgs := hgr.size
      have ho : ∀ v2 v3 v5 k, k ≠ F.g → (((w6.setCell ⟨F.g, 2, none⟩ v2).setCell ⟨F.g, 3, none⟩ v3).setCell ⟨F.g, 5, none⟩ v5).heap[k]? = w6.heap[k]? :=
        fun v2 v3 v5 k hk => (Below.heap_setCell _ _ _ k hk).trans ((Below.heap_setCell _ _ _ k hk).trans (Below.heap_setCell _ _ _ k hk))
      refine ⟨rfl, ⟨F.g, F.kb, wr.heap.size, .slice none 0 0⟩, ⟨(Lib.heap_setCell_same (Lib.heap_setCell_same (Lib.heap_setCell_same hst6 _) _) _).trans (by simp [Foot.cells, D.crash]), ?_, ?_, World.ownsRow_nil _ _ _ _, by show F.kb ≠ wr.heap.size; omega, by simp [Value.ownBlock]⟩, ?_⟩
      · show mapAt _ F.kb (d.kn + d.pend.length) (crashGo keep 0 d.kept (fun _ => false) d.pend)
        rw [← hm]
        exact (hkm.kept (hb6.block _ (by omega))).kept (ho _ _ _ _ (fun e => gk.1 e.symm))
      · show mapAt _ wr.heap.size (d.kn + d.pend.length) (crashGo keep 0 d.kept (fun _ => false) d.pend)
        rw [← hm]
        exact hm6.kept (ho _ _ _ _ (by omega))
      · refine ⟨hb6.os.trans hgr.os, hb6.tape.trans hgr.tape, hb6.output.trans hgr.output, by simp [World.setCell]; omega, fun k hk hn => ?_, fun k hk => ?_, rfl⟩
        · exact (ho _ _ _ k (fun e => hn (.inl e))).trans ((hb6.block k (by omega)).trans (hgr.block k hk (fun e => hn (.inr (.inl (Option.some.inj e))))))
        · rcases hk with e | e | e | e
          · exact .inl (.inl e)
          · exact .inl (.inr (.inl e))
          · exact .inr (by rw [e]; exact hgs)
          · cases e

end Go.Proofs.Ytocaihmadififaa.Dk
