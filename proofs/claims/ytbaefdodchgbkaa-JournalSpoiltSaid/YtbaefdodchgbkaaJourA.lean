/- What the journal's functions do on a disk: put, Write, Renew, Open. -/
import Derived.Test.YtbaefdodchgbkaaDiskI
import Derived.Test.YtbaefdodchgbkaaBuilder
import Derived.Test.YtbaefdodchgbkaaPrint2
import Derived.RegionTactic
import Derived.ChangeAlike
import Derived.BigRegion
namespace Go.Proofs.Ytbaefdodchgbkaa.Dk
open Go.RowKit Go.Maps Go.Proofs.YtbaefdodchgbkaaW.PrintWords Go.Proofs.YtbaefdodchgbkaaW.PrintLast Go.Proofs.YtbaefdodchgbkaaW.PrintMore Go.Proofs.Ytbaefdodchgbkaa.Print
set_option linter.unusedVariables false
set_option linter.unusedSimpArgs false

def D.jput (d : D) (name b : ByteArray) : Int × D := if (d.put name b).1 = 0 then (d.put name b).2.sync name else d.put name b
def D.jwrite (d : D) (name b : ByteArray) : Int × D := if (d.app name b).1 = 0 then (d.app name b).2.sync name else d.app name b

theorem At1.jput {N : Nat → Prop} {g B : Nat} {w : World} {d : D} (h : At1 N g B w d) (hf : d.Fit) (name b : ByteArray) (hf2 : (d.put name b).2.Fit) (hn : name.size ≤ 1152921504606846976) (hb : b.size ≤ 1152921504606846) :
    Calls Try.prog 32 #[.pointer (some ⟨g, 0, none⟩), .string name, .string b] w fun e w' => e = .returned (.int .i64 (d.jput name b).1) ∧ At1 N g B w' (d.jput name b).2 ∧ Below B w w' ∧ Same N w w' := by
  have c1 := h.put hf name b hn (by omega)
  unfold D.jput
  generalize hr : d.put name b = r at c1 hf2 ⊢
  obtain ⟨e1, d1⟩ := r
  simp only at c1 hf2 ⊢
  by_cases he : e1 = 0
  · subst he
    have q2 := fun w1 (h1 : At1 N g B w1 d1) => h1.sync hf2 name hn
    rw [if_pos rfl]
    clear hr
    generalize d1.sync name = r2 at q2 ⊢
    obtain ⟨e2, d2⟩ := r2
    simp only at q2 ⊢
    go_enter Try.func32, Try.ntmps32
    go_wp2_with (first
      | (go_at_call 14; with_reducible refine c1.mono ?_; rintro e w1 ⟨rfl, h1, hb1, hs1⟩)
      | (go_at_call 15; with_reducible refine (q2 w1 h1).mono ?_; rintro e w2 ⟨rfl, h2, hb2, hs2⟩))
    go_ret
    exact ⟨rfl, h2, hb1.trans hb2, hs1.trans hs2⟩
  · rw [if_neg he]
    clear hr
    have hz : (e1 != 0) = true := bne_iff_ne.mpr he
    go_enter Try.func32, Try.ntmps32
    go_wp2_with (first
      | (go_at_call 14; with_reducible refine c1.mono ?_; rintro e w1 ⟨rfl, h1, hb1, hs1⟩))
    go_ret
    exact ⟨rfl, h1, hb1, hs1⟩

theorem At1.jwrite {N : Nat → Prop} {g B : Nat} {w : World} {d : D} (h : At1 N g B w d) (hf : d.Fit) (name b fb : ByteArray) (k : Nat) (hw : sum_Wrap.f k b = some fb) (hf2 : (d.app name fb).2.Fit) (hn : name.size ≤ 1152921504606846976) (hb : fb.size ≤ 1152921504606846) :
    Calls Try.prog 18 #[.pointer (some ⟨g, 0, none⟩), .string name, .string b] w fun e w' => e = .returned (.int .i64 (d.jwrite name fb).1) ∧ At1 N g B w' (d.jwrite name fb).2 ∧ Below B w w' ∧ Same N w w' := by
  have c0 := sum_Wrap.calls k b fb w hw
  have c1 := fun w1 (h1 : At1 N g B w1 d) => h1.append hf name fb hn hb
  have ht := h.top
  unfold D.jwrite
  generalize hr : d.app name fb = r at c1 hf2 ⊢
  obtain ⟨e1, d1⟩ := r
  simp only at c1 hf2 ⊢
  by_cases he : e1 = 0
  · subst he
    have q2 := fun w1 (h1 : At1 N g B w1 d1) => h1.sync hf2 name hn
    rw [if_pos rfl]
    clear hr
    generalize d1.sync name = r2 at q2 ⊢
    obtain ⟨e2, d2⟩ := r2
    simp only at q2 ⊢
    go_enter Try.func18, Try.ntmps18
    go_wp2_with (first
      | (go_at_call 34; with_reducible refine c0.mono ?_; rintro e w0 ⟨rfl, hb0⟩; have h0 := h.on hb0)
      | (go_at_call 33; with_reducible refine (c1 w0 h0).mono ?_; rintro e w1 ⟨rfl, h1, hb1, hs1⟩)
      | (go_at_call 15; with_reducible refine (q2 w1 h1).mono ?_; rintro e w2 ⟨rfl, h2, hb2, hs2⟩))
    go_ret
    exact ⟨rfl, h2, (hb0.mono ht).trans (hb1.trans hb2), (h.same hb0).trans (hs1.trans hs2)⟩
  · rw [if_neg he]
    clear hr
    have hz : (e1 != 0) = true := bne_iff_ne.mpr he
    go_enter Try.func18, Try.ntmps18
    go_wp2_with (first
      | (go_at_call 34; with_reducible refine c0.mono ?_; rintro e w0 ⟨rfl, hb0⟩; have h0 := h.on hb0)
      | (go_at_call 33; with_reducible refine (c1 w0 h0).mono ?_; rintro e w1 ⟨rfl, h1, hb1, hs1⟩))
    go_ret
    exact ⟨rfl, h1, (hb0.mono ht).trans hb1, (h.same hb0).trans hs1⟩

/-! ### Open -/
theorem At1.open_none {N : Nat → Prop} {g B : Nat} {w : World} {d : D} (h : At1 N g B w d) (name : ByteArray) (hn : name.size ≤ maxLen) (hr : d.read name = (ByteArray.empty, 23)) :
    Calls Try.prog 16 #[.pointer (some ⟨g, 0, none⟩), .string name] w fun e w' => e = .returned (.tuple #[.slice none 0 0, .int .i64 0]) ∧ w' = w := by
  have c0 := h.read name hn
  rw [hr] at c0
  go_enter Try.func16, Try.ntmps16
  go_wp2_with (first
    | (go_at_call 17; with_reducible refine c0.mono ?_; rintro e w0 ⟨rfl, rfl⟩))
  go_ret2
  exact ⟨rfl, rfl⟩
theorem At1.open_spoilt {N : Nat → Prop} {g B : Nat} {w : World} {d : D} (h : At1 N g B w d) (name : ByteArray) (hn : name.size ≤ maxLen) (s : ByteArray) (hr : d.read name = (s, 0)) (k : Nat) (l : List ByteArray) (n : Int) (hs : journal_Scan.f k s = some (l, n, 24)) :
    Calls Try.prog 16 #[.pointer (some ⟨g, 0, none⟩), .string name] w fun e w' => e = .returned (.tuple #[.slice none 0 0, .int .i64 24]) ∧ Below w.heap.size w w' := by
  have c0 := h.read name hn
  rw [hr] at c0
  have c1 := journal_Scan.calls k s l n 24 w hs
  go_enter Try.func16, Try.ntmps16
  go_wp2_with (first
    | (go_at_call 17; with_reducible refine c0.mono ?_; rintro e w0 ⟨rfl, rfl⟩)
    | (go_at_call 11; with_reducible refine c1.mono ?_; rintro e w1 ⟨v, rfl, hR, hb⟩))
  go_ret2
  exact ⟨rfl, hb⟩
/-- What a row of strings is that a call has made: none of the disk's. -/
def Row (N : Nat → Prop) (w : World) (v : Value) (l : List ByteArray) : Prop := ∃ B, Kd.string.R 9 w B N v l
theorem Row.same {N : Nat → Prop} {w w' : World} {v : Value} {l : List ByteArray} (h : Row N w v l) (hs : Same N w w') : Row N w' v l := by
  obtain ⟨B, h⟩ := h
  exact ⟨B, Kd.R_move h hs⟩
theorem Row.more {N N' : Nat → Prop} {w : World} {v : Value} {l : List ByteArray} (h : Row N w v l) (hn : ∀ k, N k → N' k) : Row N' w v l := by
  obtain ⟨B, h⟩ := h
  exact ⟨B, Kd.R_mono h hn⟩
theorem row_new {N : Nat → Prop} {w w' : World} {v : Value} {l : List ByteArray} (h : Kd.string.R 9 w' w.heap.size (fun _ => True) v l) : Row (fun k => N k ∨ (w.heap.size ≤ k ∧ k < w'.heap.size)) w' v l :=
  ⟨_, Kd.R_mono (Kd.R_bound h) (fun k hk => .inr ⟨hk.2.1, hk.2.2.1⟩)⟩
theorem At1.open_ok {N : Nat → Prop} {g B : Nat} {w : World} {d : D} (h : At1 N g B w d) (name : ByteArray) (hn : name.size ≤ maxLen) (s : ByteArray) (hr : d.read name = (s, 0)) (k : Nat) (l : List ByteArray) (hs : journal_Scan.f k s = some (l, (s.size : Int), 0)) :
    Calls Try.prog 16 #[.pointer (some ⟨g, 0, none⟩), .string name] w fun e w' => ∃ v N', e = .returned (.tuple #[v, .int .i64 0]) ∧ (∀ k, N k → N' k) ∧ Row N' w' v l ∧ At1 N' g B w' d ∧ Below B w w' ∧ Same N w w' := by
  have c0 := h.read name hn
  rw [hr] at c0
  have c1 := journal_Scan.calls k s l _ 0 w hs
  go_enter Try.func16, Try.ntmps16
  go_wp2_with (first
    | (go_at_call 17; with_reducible refine c0.mono ?_; rintro e w0 ⟨rfl, rfl⟩)
    | (go_at_call 11; with_reducible refine c1.mono ?_; rintro e w1 ⟨v, rfl, hR, hb⟩))
  go_ret2
  exact ⟨v, _, rfl, fun _ hk => .inl hk, row_new hR, h.more hb, hb.mono h.top, h.same hb⟩
theorem At1.open_cut {N : Nat → Prop} {g B : Nat} {w : World} {d : D} (h : At1 N g B w d) (hf : d.Fit) (name : ByteArray) (hn : name.size ≤ 1152921504606846976) (s : ByteArray) (hr : d.read name = (s, 0)) (k : Nat) (l : List ByteArray) (n : Nat) (hs : journal_Scan.f k s = some (l, (n : Int), 0)) (hlt : n < s.size)
    (hsz : s.size ≤ 1152921504606846) (hf2 : (d.put name (s.extract 0 n)).2.Fit) (d' : D) (hj : d.jput name (s.extract 0 n) = (0, d')) :
    Calls Try.prog 16 #[.pointer (some ⟨g, 0, none⟩), .string name] w fun e w' => ∃ v N', e = .returned (.tuple #[v, .int .i64 0]) ∧ (∀ k, N k → N' k) ∧ Row N' w' v l ∧ At1 N' g B w' d' ∧ Below B w w' ∧ Same N w w' := by
  have c0 := h.read name (Nat.le_trans hn (by simp [maxLen]))
  rw [hr] at c0
  have c1 := journal_Scan.calls k s l n 0 w hs
  have hltz : decide ((n : Int) < (s.size : Int)) = true := decide_eq_true (by omega)
  have hle : n ≤ s.size := by omega
  have c2 := fun (N' : Nat → Prop) w1 (h1 : At1 N' g B w1 d) => h1.jput hf name (s.extract 0 n) hf2 hn (by rw [ByteArray.size_extract]; omega)
  rw [hj] at c2
  clear hj hf2
  simp only at c2
  go_enter Try.func16, Try.ntmps16
  go_wp2_with (first
    | (go_at_call 17; with_reducible refine c0.mono ?_; rintro e w0 ⟨rfl, rfl⟩)
    | (go_at_call 11; with_reducible refine c1.mono ?_; rintro e w1 ⟨v, rfl, hR, hb⟩; have h1 := h.more hb)
    | (go_at_call 32; with_reducible refine (c2 _ w1 h1).mono ?_; rintro e w2 ⟨rfl, h2, hb2, hs2⟩))
  go_ret2
  exact ⟨v, _, rfl, fun _ hk => .inl hk, (row_new hR).same hs2, h2, (hb.mono h.top).trans hb2, (h.same hb).trans (hs2.less (fun _ hk => .inl hk))⟩

/-! ### Renew -/
def catW : List ByteArray → List UInt8
  | [] => []
  | b :: r => b.data.toList ++ catW r
theorem catW_snoc (l : List ByteArray) (b : ByteArray) : catW (l ++ [b]) = catW l ++ b.data.toList := by
  induction l with
  | nil => simp [catW]
  | cons a r ih => simp only [List.cons_append, catW, ih, List.append_assoc]
theorem byteCells_append (a b : List UInt8) : Lib.byteCells (a ++ b) = Lib.byteCells a ++ Lib.byteCells b := by simp [Lib.byteCells]
theorem builder_on {T e : TypeId} {B b : Nat} {bs : List Value} {w w' : World} (h : Lib.IsBuilder T e B b bs w) (hb : Below w.heap.size w w') : Lib.IsBuilder T e B b bs w' := by
  have key : ∀ p, Lib.BuilderAt T e B b p bs w → Lib.BuilderAt T e B b p bs w' := fun p h => by
    have hlt := h.lt
    obtain ⟨hB, v, hbk, hown, hne⟩ := h
    exact ⟨hB, v, (hb.block b hlt).trans hbk, own_move hown (fun k hk => hb.block k (own_lt hown k hk)), hne⟩
  exact h.elim (fun x => .inl (key _ x)) (fun x => .inr (key _ x))
theorem row_at {w wr : World} {A : Option Addr} {l : List ByteArray} (h : ReadsOf Value.string ByteArray.empty w A l.length l) (hB : Below w.heap.size w wr) {j : Nat} (hj : j < l.length) :
    ∃ x, A = some x ∧ wr.cell? (x.add j) = some (.string l[j]) ∧ (x.add j).block < w.heap.size := by
  obtain ⟨x, e, hc⟩ := h.2.2 (by omega)
  have h1 := hc j hj
  rw [List.getD_eq_getElem?_getD, List.getElem?_eq_getElem hj, Option.getD_some] at h1
  have hl := World.block_lt_of_cell? w _ h1
  exact ⟨x, e, (hB.cell hl).trans h1, hl⟩
theorem catW_le (c : Nat) : ∀ l : List ByteArray, (∀ b ∈ l, b.size ≤ c) → (catW l).length ≤ l.length * c
  | [], _ => by simp [catW]
  | b :: r, h => by
    have h1 := h b (by simp)
    have h2 := catW_le c r (fun x hx => h x (by simp [hx]))
    simp only [catW, List.length_append, List.length_cons, Nat.add_mul, Array.length_toList]
    have : b.data.size = b.size := rfl
    omega
theorem At1.jrenew {N : Nat → Prop} {g B : Nat} {w : World} {d : D} (h : At1 N g B w d) (hf : d.Fit) (name : ByteArray) (hn : name.size ≤ 1152921504606846976) (x : Option Addr) (c : Nat) (l fs : List ByteArray) (k : Nat) (hl : l.length = fs.length) (hl2 : l.length ≤ 1000)
    (R : ReadsOf Value.string ByteArray.empty w x l.length l) (hw : ∀ i (h : i < l.length) (h2 : i < fs.length), sum_Wrap.f k l[i] = some fs[i]) (hz : ∀ b ∈ fs, b.size ≤ 1000000)
    (hf2 : (d.put name ⟨(catW fs).toArray⟩).2.Fit) :
    Calls Try.prog 21 #[.pointer (some ⟨g, 0, none⟩), .string name, .slice x l.length c] w fun e w' => e = .returned (.int .i64 (d.jput name ⟨(catW fs).toArray⟩).1) ∧ At1 N g B w' (d.jput name ⟨(catW fs).toArray⟩).2 ∧ Below B w w' ∧ Same N w w' := by
  have hcz : ∀ i, (catW (fs.take i)).length ≤ 1000000000 := fun i => by
    have := catW_le 1000000 (fs.take i) (fun b hb => hz b (List.mem_of_mem_take hb))
    have h2 : (fs.take i).length ≤ 1000 := by rw [List.length_take]; omega
    have h3 := Nat.mul_le_mul_right 1000000 h2
    omega
  have hci0 := hcz fs.length
  rw [List.take_length] at hci0
  have c1 := fun w1 (h1 : At1 N g B w1 d) => h1.jput hf name ⟨(catW fs).toArray⟩ hf2 hn (by show (catW fs).toArray.size ≤ _; rw [List.size_toArray]; omega)
  generalize htx : (⟨(catW fs).toArray⟩ : ByteArray) = tx at c1 hf2 ⊢
  generalize d.jput name tx = r at c1 ⊢
  obtain ⟨e1, d1⟩ := r
  simp only at c1 ⊢
  have HL := Aside0.mk hl
  have hw' : ∀ i (h : i < l.length), ∃ h2 : i < fs.length, sum_Wrap.f k l[i] = some fs[i] := fun i h => ⟨by omega, hw i h (by omega)⟩
  clear hl hw
  go_enter Try.func21, Try.ntmps21
  go_wp2
  have hb0 : Below w.heap.size w (w.alloc (.cells #[.pointer none, .slice none 0 0] 72)) := (Below.refl _ w).alloc (Nat.le_refl _) _
  have hbu := Lib.fresh_isBuilder 72 5 w
  go_loopw [12] (fun v12 wr => ∃ i : Nat, i ≤ l.length ∧ v12 = .int .i64 (i : Int) ∧ Lib.IsBuilder 72 5 w.heap.size w.heap.size (Lib.byteCells (catW (fs.take i))) wr ∧ Below w.heap.size w wr)
    (fun v12 _ => l.length - (intOf v12).toNat)
  case atStart => exact ⟨0, by omega, rfl, hbu, hb0⟩
  case round =>
    obtain ⟨i, hi, rfl, hBu, hBi⟩ := hrel
    have hsz := hBi.size
    by_cases hlt : i < l.length
    · have hltz : decide ((i : Int) < (l.length : Int)) = true := decide_eq_true (by omega)
      obtain ⟨x, rfl, hc, hxb⟩ := row_at R hBi hlt
      obtain ⟨hif, hW⟩ := hw' i hlt
      have c0 := sum_Wrap.calls k l[i] fs[i] wr hW
      have hfz := hz fs[i] (List.getElem_mem hif)
      have hci := hcz i
      have c1 : ∀ w1, Below wr.heap.size wr w1 → _ := fun w1 hb => Bd.write_calls w.heap.size w.heap.size _ fs[i] w1 (builder_on hBu hb) (by rw [Lib.byteCells_length]; omega) (by have := hb.size; omega)
      have ct : Lib.byteCells (catW (fs.take i)) ++ Lib.strCells fs[i] = Lib.byteCells (catW (fs.take (i + 1))) := by
        rw [List.take_succ_eq_append_getElem hif, catW_snoc, byteCells_append]; rfl
      rw [ct] at c1
      clear hw' hz hcz R ct hW
      go_wp2_with (first
        | (go_at_call 34; with_reducible refine c0.mono ?_; rintro e w1 ⟨rfl, hb1⟩)
        | (go_at_call 36; with_reducible refine (c1 w1 hb1).mono ?_; rintro e w2 ⟨rfl, hBu2, hb2⟩))
      go_roundw
      case rel =>
        exact ⟨i + 1, by omega, by simp, .inr hBu2, (hBi.trans (hb1.mono hsz)).trans hb2⟩
      case measure => simp [intOf]; omega
    · have hltz : decide ((i : Int) < (l.length : Int)) = false := decide_eq_false (by omega)
      rw [List.take_of_length_le (by have := HL.out; omega)] at hBu
      have c0 := Bd.string_calls w.heap.size w.heap.size (catW fs) wr hBu hsz
      have hci := hcz fs.length
      rw [List.take_length] at hci
      have hri := h.on hBi
      have hsame := h.same hBi
      have htop := h.top
      rw [htx] at c0
      clear hw' hz hcz R hf2
      have hon : ∀ w1, Below w.heap.size wr w1 → At1 N g B w1 d ∧ Same N w w1 ∧ Below B w w1 := fun w1 hb => ⟨h.on (hBi.trans hb), h.same (hBi.trans hb), (hBi.trans hb).mono htop⟩
      go_wp2_with (first
        | (go_at_call 37; with_reducible refine c0.mono ?_; rintro e w1 ⟨rfl, hb1⟩; obtain ⟨h1, hs1, hbb1⟩ := hon w1 hb1)
        | (go_at_call 32; with_reducible refine (c1 w1 h1).mono ?_; rintro e w2 ⟨rfl, h2, hb2, hs2⟩))
      go_ret
      exact ⟨rfl, h2, hbb1.trans hb2, hs1.trans hs2⟩

end Go.Proofs.Ytbaefdodchgbkaa.Dk
