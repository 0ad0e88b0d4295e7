/- A disk as it lies in the heap; the small methods. -/
import Derived.Test.YtocaihmadififaaDiskD
import Derived.Test.YtocaihmadififaaMine
import Derived.Test.YtocaihmadififaaProg
import Derived.Below
import Derived.Lib.BufferMore
import Derived.OwnWalk
import Derived.Laws.MakeOwn
import Derived.Maps.AppendAt
import Derived.IntWalk
import Derived.MapKept
import Derived.Lib.SliceRun
import Derived.Laws.Externs
import Derived.Shelf.Abstract
import Derived.Deep.LoopGhost
import Derived.Deep.RegionLaw
import Derived.StringKeys
import Derived.Maps.RangeWalk
import Derived.Tactics
import Derived.WalkKit
import Derived.KernelRfl
import Derived.RowKit3
import Derived.RowKit
import Derived.WalkMore
import Derived.Deep.QuietTactic
import Derived.BigQuiet
import Derived.WideLaws
import Derived.Deep.DeepCutAuto
import Derived.OrdersHeld
import Derived.Test.YtocaihmadififaaWWords
import Derived.Test.YtocaihmadififaaWLast
import Derived.Test.YtocaihmadififaaWFour
import Derived.Test.YtocaihmadififaaWMore
namespace Go.Proofs.Ytocaihmadififaa.Dk
open Go.RowKit Go.Maps Go.Proofs.YtocaihmadififaaW.PrintWords Go.Proofs.YtocaihmadififaaW.PrintLast Go.Proofs.YtocaihmadififaaW.PrintMore
set_option linter.unusedVariables false
set_option linter.unusedSimpArgs false

/-! ### Sync -/
def D.sync (d : D) (name : ByteArray) : Int × D :=
  if d.left = 0 then (22, d)
  else if (d.now.get name).isSome then (0, ({ d with kept := d.kept.put name (d.now.at name), kn := d.kn + 1, pend := keep name d.pend } : D).step)
  else (23, d)

theorem IsDisk.keptPut {w w2 : World} {F : Foot} {d : D} (h : IsDisk w F d) {x : DU} {n : Nat} {m : M} (ho : w2.ownsMap Try.prog 9 (plainElem Try.prog 9) F.kb n x) (hg : w.grownBy w2 (some F.kb)) (hs : Sees x m) :
    IsDisk w2 F { d with kept := m, kn := n } := by
  have hb : ∀ k, F.has k → k ≠ F.kb → w2.heap[k]? = w.heap[k]? := fun k hk hne => hg.block k (h.lt k hk) (by simpa using hne)
  have gk := h.gk
  have pk := h.pk
  exact ⟨(hb _ (.inl rfl) gk.1).trans h.st, ⟨x, ho, hs⟩, h.now.kept (hb _ (.inr (.inr (.inl rfl))) (fun e => h.apart e.symm)), row_kept h.pend (fun b e => hb b (.inr (.inr (.inr e))) (fun e2 => pk.1 (by rw [e, e2]))), h.apart, h.pg⟩
theorem Turn.map {w w2 : World} {F : Foot} {b : Nat} (hg : w.grownBy w2 (some b)) (hb : F.has b) : Turn w w2 F F :=
  ⟨hg.os, hg.tape, hg.output, hg.size, fun k hk hn => hg.block k hk (fun e => hn (by rw [Option.some.inj e]; exact hb)), fun _ h => .inl h, rfl⟩
theorem row_slice {w : World} {e size n : Nat} {v : Value} {xs : List Value} (h : w.ownsRow 0 e size v n xs) : ∃ a n c, v = .slice a n c := by
  rcases h.2 with ⟨e, _⟩ | ⟨g, cap, _, h, _⟩
  · exact ⟨_, _, _, e⟩
  · exact ⟨_, _, _, h⟩
theorem IsDisk.drew {w : World} {F : Foot} {d : D} (h : IsDisk w F d) : IsDisk w.drew F d := h.kept_ (fun _ _ => rfl)
set_option maxHeartbeats 2000000 in
theorem sync_calls {w : World} {F : Foot} {d : D} (HD : IsDisk w F d) (hf : d.Fit) (name : ByteArray) (hn : name.size ≤ 1152921504606846976) :
    Calls Try.prog 11 #[.pointer (some ⟨F.g, 0, none⟩), .string name] w fun e w' =>
      e = .returned (.int .i64 (d.sync name).1) ∧ ∃ F', IsDisk w' F' (d.sync name).2 ∧ Turn w w' F F' := by
  have hn2 : name.size ≤ maxLen := Nat.le_trans hn (by simp [maxLen])
  have HD1 := HD.alloc (.cells #[.string name] 9)
  obtain ⟨c0, c1, c2, c3, _, _⟩ := HD1.c
  have hlk := HD1.now.look_ok hn2
  have hoff := off_calls HD1
  have hT1 : Turn w (w.alloc (.cells #[.string name] 9)) F F := ⟨rfl, rfl, rfl, by simp, fun k hk _ => (MapKept.heap_alloc w _).2 k hk, fun _ h => .inl h, rfl⟩
  obtain ⟨R, hR⟩ : ∃ R, Aside0 (R = d.sync name) := ⟨_, Aside0.mk rfl⟩
  rw [← hR.out]
  go_enter Try.func11, Try.ntmps11
  go_wp2
  have hlk1 := HD1.drew.now.look_ok hn2
  have cb : (w.alloc (.cells #[.string name] 9)).cell? ⟨w.heap.size, 0, none⟩ = some (.string name) := (cell_of (MapKept.heap_alloc w _).1 0).trans rfl
  go_region
  have HD2 := HD1.drew
  have hT2 : Turn w (w.alloc (.cells #[.string name] 9)).drew F F := ⟨hT1.os, hT1.tape, hT1.output, hT1.size, hT1.block, hT1.foot, rfl⟩
  have cb2 : (w.alloc (.cells #[.string name] 9)).drew.cell? ⟨w.heap.size, 0, none⟩ = some (.string name) := cb
  have hltF := HD.lt
  generalize (w.alloc (.cells #[.string name] 9)).drew = W1 at *
  clear hlk hlk1 hoff c0 c1 c2 c3 cb HD1 hT1
  obtain ⟨c0, c1, c2, c3, _, _⟩ := HD2.c
  have hoff := off_calls HD2
  by_cases hl : d.left = 0
  · have hl2 : (d.left == 0) = true := beq_iff_eq.2 hl
    rw [hl2] at hoff
    go_wp2_with (go_at_call 25; refine hoff.mono ?_; rintro e w' ⟨rfl, rfl⟩)
    go_ret
    obtain rfl : R = (22, d) := by rw [hR.out, D.sync, if_pos hl]
    exact ⟨rfl, F, HD2, hT2⟩
  · have hl2 : (d.left == 0) = false := beq_eq_false_iff_ne.2 hl
    rw [hl2] at hoff
    cases hs : (d.now.get name).isSome with
    | false =>
      go_wp2_with (go_at_call 25; refine hoff.mono ?_; rintro e w' ⟨rfl, rfl⟩)
      go_ret
      obtain rfl : R = (23, d) := by rw [hR.out, D.sync, if_neg hl, if_neg (by rw [hs]; decide)]
      exact ⟨rfl, F, HD2, hT2⟩
    | true =>
      have hkn := hf.kn
      have hpl := hf.pend
      have hst0 := hf.s0
      have hst1 := hf.s1
      have hlf0 := hf.l0
      have hlf1 := hf.l1
      have htt := hf.tot
      have hle : (d.now.at name).size ≤ d.now.tot := by
        obtain ⟨x, ho, hs⟩ := HD2.now
        exact hs.le (ho.tidy law9) name
      obtain ⟨x, hown, hsee⟩ := HD2.kept
      have hkey := WideMaps.keyOf_string_mk Try.underlying9 hn2
      obtain ⟨w2, hmu, hown2, hg2⟩ := (show W1.drew.ownsMap Try.prog 9 (plainElem Try.prog 9) F.kb d.kn x from hown).update law9 Try.underlying56 (by unfold maxLen; omega) hkey (plainElem_string (s := d.now.at name) Try.underlying9 (by unfold maxLen; omega))
      go_wp2_with (go_at_call 25; refine hoff.mono ?_; rintro e w' ⟨rfl, rfl⟩)
      go_region
      have hg2' := undrew hg2
      have HD3 : IsDisk w2 F { d with kept := d.kept.put name (d.now.at name), kn := d.kn + 1 } := HD2.keptPut hown2 hg2' (hsee.put (hown.tidy law9) name (d.now.at name))
      have hT3 : Turn _ w2 F F := Turn.map hg2' (.inr (.inl rfl))
      have cb3 : w2.cell? ⟨w.heap.size, 0, none⟩ = some (.string name) := hg2'.cell cb2 (fun e => by have h1 := hltF F.kb (.inr (.inl rfl)); have h2 := Option.some.inj e; simp only at h2; omega)
      obtain ⟨_, _, _, e3, _, _⟩ := HD3.c
      have hdel := delete_calls HD3.pend w.heap.size name cb3 (fun e => by have := hltF _ (.inr (.inr (.inr e))); omega) hpl
      go_wp2_with (first
        | (go_at_call 26; refine hdel.mono ?_; rintro e w3 ⟨v3, rfl, hown3, hat3, hg3⟩
           obtain ⟨a3, n3, k3, rfl⟩ := row_slice hown3
           obtain ⟨f3, k3⟩ := HD3.g3 hg3
           obtain ⟨HD4, hT4⟩ := HD3.pushed (ops := keep name d.pend) hg3 hown3 (.inl hat3)
           have hst := step_calls HD4 hst0 (by show d.steps < _; omega) hlf0 hlf1)
        | (go_at_call 28; refine hst.mono ?_; rintro e w' ⟨rfl, HD5, hT5⟩))
      go_ret
      obtain rfl : R = (0, ({ d with kept := d.kept.put name (d.now.at name), kn := d.kn + 1, pend := keep name d.pend } : D).step) := by rw [hR.out, D.sync, if_neg hl, if_pos hs]
      exact ⟨rfl, _, HD5, (hT2.trans (hT3.trans hT4)).trans hT5⟩

/-! ### maps.Clone -/
theorem map_is_nil (w : World) (p : Option Nat) : (binOp .eql 56 (.map p) (.map none)).run Try.prog w = .ok (.bool p.isNone) w := by
  have hd : ∀ d, (Op.equalIn (d + 1) 56 (.map p) (.map none)).run Try.prog w = .ok p.isNone w := fun d => by
    cases p <;> simp [Op.equalIn, run_underlying Try.underlying56]
  simp only [binOp]
  rw [show Op.equal 56 (.map p) (.map none) = Op.equalIn (9999 + 1) 56 (.map p) (.map none) from rfl]
  simp [hd 9999]
theorem clone_entry (w : World) {r : Nat} {es : Array MapEntry} {clock : Nat} (t : TypeId) (hb : w.heap[r]? = some (.map es clock)) :
    (Extern.MapsClone.clone #[.iface t (.map (some r))]).run Try.prog w = .ok (.iface t (.map (some w.heap.size))) (w.alloc (.map es clock)) := by
  show Sem.run Try.prog (getObj r >>= fun o => match o with
      | .map entries clock => (newObj (.map entries clock) >>= fun n => pure (Value.iface t (.map (some n))))
      | _ => stuck "maps.clone: a map expected") w = _
  simp [MapKept.run_getObj_map hb, Result.andThen, go_sem]
theorem map_of_iface (w : World) (xT : TypeId) (v : Value) : (Instr.typeAssert (.iface 56 v) xT 56 false).run Try.prog w = .ok v w := by
  simp [Instr.typeAssert, run_underlying Try.underlying56, go_sem, Result.andThen]
theorem clone_calls {w : World} {b n : Nat} {m : M} (h : mapAt w b n m) :
    Calls Try.prog 29 #[.map (some b)] w fun e w' => e = .returned (.map (some w.heap.size)) ∧ mapAt w' w.heap.size n m ∧ Below w.heap.size w w' := by
  obtain ⟨x, ⟨es, clock, hb, r⟩, hs⟩ := h
  have hq := fun w => map_is_nil w (some b)
  go_enter Try.func29, Try.ntmps29
  go_wp2
  rw [run_callFunc_extern Try.func36 (by kernel_rfl) (by kernel_rfl) (by kernel_rfl) (e := Extern.MapsClone.clone) (by kernel_rfl), clone_entry w 56 hb]
  simp only [Result.andThen]
  rw [Oper.upon_value]
  go_wp2
  rw [map_of_iface]
  simp only [Result.andThen]
  rw [Oper.upon_value]
  go_wp2
  go_ret
  exact ⟨rfl, ⟨x, ⟨es, clock, (MapKept.heap_alloc w _).1, r⟩, hs⟩, (Below.refl _ w).alloc (Nat.le_refl _) _⟩

/-! ### slices.Clone -/
theorem infoOp : (Try.prog.info? 62).map (fun i => (i.zero, i.size, i.bytes)) = some (some (.agg #[.string ByteArray.empty, .string ByteArray.empty, .bool false]), 3, 40) := by kernel_rfl
theorem one_flat (ops : List Op) : ∀ u ∈ ops.flatMap Op.cells, u.oneCell' = true := by
  intro u hu
  obtain ⟨o, _, h⟩ := List.mem_flatMap.1 hu
  simp [Op.cells] at h
  rcases h with rfl | rfl | rfl <;> rfl
-- steps told
theorem sclone_calls {w : World} {v : Value} {ops : List Op} (hrow : w.ownsRow 0 62 3 v ops.length (ops.flatMap Op.cells)) (hlen : ops.length ≤ 1048576) :
    Calls Try.prog 30 #[v] w fun e w' => ∃ v', e = .returned v' ∧ w'.ownsRow 0 62 3 v' ops.length (ops.flatMap Op.cells) ∧ (∀ b, v'.ownBlock = some b → w.heap.size ≤ b) ∧ Below w.heap.size w w' := by
  have hq := fun (W : World) a n c => Lib.run_eql_slice_nil W 57 62 a n c 0 0 Try.underlying57
  rcases hrow.2 with ⟨rfl, h0⟩ | ⟨g, cap, cur, rfl, _, hg, hnc, hcm, hcs, htake⟩
  · go_enter Try.func30, Try.ntmps30
    go_wp2
    go_ret
    exact ⟨_, rfl, hrow, (fun b e => by cases e), Below.refl _ _⟩
  · go_enter Try.func30, Try.ntmps30
    obtain ⟨i0, hi, hz0, hz1, hz2⟩ := info_parts infoOp
    have hgl : g < w.heap.size := (Array.getElem?_eq_some_iff.1 hg).1
    have hg1 : (w.alloc (.cells #[] 62)).heap[g]? = some (.cells cur 62 (0, 0)) := ((MapKept.heap_alloc w _).2 g hgl).trans hg
    have h0 : (w.alloc (.cells #[] 62)).ownsRow w.heap.size 62 3 (.slice (some ⟨w.heap.size, 0, none⟩) 0 0) 0 [] := World.ownsRow_made w #[] 0 (Nat.le_refl _) (Nat.zero_le _) rfl
    have hnews : ∀ j u, (ops.flatMap Op.cells)[j]? = some u → (w.alloc (.cells #[] 62)).cell? ((⟨g, 0, none⟩ : Addr).add j) = some u := by
      intro j u hj
      have hjl : j < ops.length * 3 := by have := (List.getElem?_eq_some_iff.1 hj).1; rwa [flat_length] at this
      rw [← htake, List.getElem?_take, if_pos hjl] at hj
      have ea : (⟨g, 0, none⟩ : Addr).add j = ⟨g, j, none⟩ := by simp [Addr.add]; omega
      rw [ea, cell_of hg1]
      simpa using hj
    go_wp2_with (first
      | (at_builtin; refine wpList_append_own_at _ rfl (.tmp 5) (.tmp 6) 57 rfl w.heap.size 62 i0 _ 3 40 Try.underlying57 hi hz0 hz1 hz2 rfl (by decide) _ 0 [] rfl h0 ⟨g, 0, none⟩ ops.length cap (ops.flatMap Op.cells) rfl (flat_length _) hnews (one_flat _) (by unfold maxLen; omega) (by omega) (by simp) ?_
         intro v1 w1 hown1 hg2 _ hat
         obtain ⟨a1, n1, c1, rfl⟩ := row_slice (own_weaken hown1 (Nat.zero_le _)))
      | go_in)
    go_ret
    have hb : Below w.heap.size w w1 := ((Below.refl _ w).alloc (Nat.le_refl _) _).grown hg2 (by simp) (fun k hk => by cases hk; exact Nat.le_refl _)
    refine ⟨_, rfl, ?_, fun b e => (hown1.lt b e).1, hb⟩
    have := own_weaken hown1 (Nat.zero_le _)
    simpa using this
-- steps told end

end Go.Proofs.Ytocaihmadififaa.Dk
