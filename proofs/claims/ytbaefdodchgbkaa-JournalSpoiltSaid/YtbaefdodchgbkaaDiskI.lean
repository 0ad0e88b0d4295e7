/- A disk as it lies in the heap; the small methods. -/
import Derived.Test.YtbaefdodchgbkaaDiskG
import Derived.Test.YtbaefdodchgbkaaMine
import Derived.Test.YtbaefdodchgbkaaProg
import Derived.Below
import Derived.Lib.BufferMore
import Derived.OwnWalk
import Derived.Laws.MakeOwn
import Derived.Maps.AppendAt
import Derived.IntWalk
import Derived.Laws.IdiomStrings
import Derived.MapKept
import Derived.Lib.SliceRun
import Derived.Laws.Externs
import Derived.Shelf.Abstract
import Derived.Deep.LoopGhost
import Derived.Deep.RegionLaw
import Derived.StringKeys
import Derived.Maps.RangeWalk
import Derived.Tactics
import Derived.WalkKit
import Derived.KernelRfl
import Derived.RowKit3
import Derived.RowKit
import Derived.WalkMore
import Derived.Deep.QuietTactic
import Derived.BigQuiet
import Derived.WideLaws
import Derived.Deep.DeepCutAuto
import Derived.OrdersHeld
import Derived.Test.YtbaefdodchgbkaaWWords
import Derived.Test.YtbaefdodchgbkaaWLast
import Derived.Test.YtbaefdodchgbkaaWFour
import Derived.Test.YtbaefdodchgbkaaWMore
namespace Go.Proofs.Ytbaefdodchgbkaa.Dk
open Go.RowKit Go.Maps Go.Proofs.YtbaefdodchgbkaaW.PrintWords Go.Proofs.YtbaefdodchgbkaaW.PrintLast Go.Proofs.YtbaefdodchgbkaaW.PrintMore
set_option linter.unusedVariables false
set_option linter.unusedSimpArgs false

/-! ### A disk that holds one file at most -/
def fn : ByteArray := ⟨#[108, 111, 103]⟩
def one (o : Option ByteArray) : M := ⟨fun x => if x = fn then o else none, (o.getD ByteArray.empty).size⟩
theorem one_none : M.empty = one none := by
  unfold M.empty one
  congr 1
  funext x
  by_cases h : x = fn <;> simp [h]
theorem one_at (o : Option ByteArray) : (one o).at fn = o.getD ByteArray.empty := by simp [one, M.at]
theorem one_get (o : Option ByteArray) : (one o).get fn = o := by simp [one]
theorem one_put (o : Option ByteArray) (v : ByteArray) : (one o).put fn v = one (some v) := by
  have h := one_at o
  unfold M.put
  rw [h]
  simp only [one, Option.getD_some, Nat.sub_self, Nat.zero_add]
  congr 1
  funext x
  by_cases h : x = fn <;> simp [h]

/-- What is kept, what is there, how often these were set, what is pending, the steps. -/
structure S where
  ko : Option ByteArray
  no : Option ByteArray
  kn : Nat
  nn : Nat
  l : List (ByteArray × Bool)
  steps : Int
  left : Int
def opOf (p : ByteArray × Bool) : Op := ⟨fn, p.1, p.2⟩
def S.d (room : Int) (s : S) : D := ⟨room, one s.ko, s.kn, one s.no, s.nn, s.l.map opOf, s.steps, s.left⟩
def S.cur (s : S) : ByteArray := s.no.getD ByteArray.empty
structure S.Ok (room : Int) (s : S) : Prop where
  s0 : 0 ≤ s.steps
  s1 : s.steps ≤ 1000000
  l0 : -1 ≤ s.left
  l1 : s.left ≤ 1000000
  nn : s.nn ≤ 1000000
  kn : s.kn ≤ 1000000
  ll : s.l.length ≤ 1000000
  cu : s.cur.size ≤ 1000000
  r0 : 0 ≤ room
  r1 : room ≤ 1000000
theorem S.Ok.fit {room : Int} {s : S} (h : s.Ok room) : (s.d room).Fit := by
  obtain ⟨h1, h2, h3, h4, h5, h6, h7, h8, h9, h10⟩ := h
  unfold S.cur at h8
  exact ⟨h1, by show s.steps ≤ _; omega, h3, by show s.left ≤ _; omega, h9, h10, by show s.nn ≤ _; omega, by show s.kn ≤ _; omega, by show (s.l.map opOf).length ≤ _; rw [List.length_map]; omega, by show (s.no.getD ByteArray.empty).size ≤ _; omega⟩
def S.wr (s : S) (v : ByteArray) (p : ByteArray × Bool) : S := { s with no := some v, nn := s.nn + 1, l := s.l ++ [p], steps := s.steps + 1, left := if s.left > 0 then s.left - 1 else s.left }
def S.sy (s : S) : S := { s with ko := s.no, kn := s.kn + 1, l := [], steps := s.steps + 1, left := if s.left > 0 then s.left - 1 else s.left }
def play1 (keep : Int) (i : Nat) (p : ByteArray × Bool) (m : Option ByteArray) (st : Bool) : Option ByteArray :=
  if st then m
  else if bitOf keep i && p.2 then some p.1
  else if bitOf keep i then some (m.getD ByteArray.empty ++ p.1)
  else if !p.2 && !(half p.1).toList.isEmpty then some (m.getD ByteArray.empty ++ half p.1)
  else m
def play (keep : Int) (i : Nat) (m : Option ByteArray) (st : Bool) : List (ByteArray × Bool) → Option ByteArray
  | [] => m
  | p :: r => play keep (i + 1) (play1 keep i p m st) (st || !bitOf keep i) r
def S.cr (s : S) (keep : Int) : S := ⟨play keep 0 s.ko false s.l, play keep 0 s.ko false s.l, s.kn + s.l.length, s.kn + s.l.length, [], s.steps, -1⟩

theorem lay_ok {room : Int} {s : S} {v : ByteArray} {p : ByteArray × Bool} (hl : s.left ≠ 0) (hr : (v.size : Int) ≤ room) : (s.d room).lay fn v (opOf p) = (0, (s.wr v p).d room) := by
  unfold D.lay
  rw [if_neg (show (s.d room).left ≠ 0 from hl), if_neg (by
    show ¬ ((v.size : Int) - (((one s.no).at fn).size : Int) + (((s.no.getD ByteArray.empty).size : Nat) : Int) > room)
    rw [one_at]; omega)]
  simp only [S.d, S.wr, D.step, one_put, List.map_append, List.map_cons, List.map_nil]
  rfl
theorem lay_off {room : Int} {s : S} {v : ByteArray} {o : Op} (hl : s.left = 0) : (s.d room).lay fn v o = (22, s.d room) := if_pos hl
theorem app_ok {room : Int} {s : S} {b : ByteArray} (hl : s.left ≠ 0) (hr : ((s.cur ++ b).size : Int) ≤ room) : (s.d room).app fn b = (0, (s.wr (s.cur ++ b) (b, false)).d room) := by
  have : (s.d room).now.at fn = s.cur := one_at s.no
  unfold D.app
  rw [this]
  exact lay_ok (p := (b, false)) hl hr
theorem app_off {room : Int} {s : S} {b : ByteArray} (hl : s.left = 0) : (s.d room).app fn b = (22, s.d room) := lay_off hl
theorem keep_all (l : List (ByteArray × Bool)) : keep fn (l.map opOf) = [] := by
  unfold keep
  rw [List.filter_eq_nil_iff]
  intro o ho
  obtain ⟨p, _, rfl⟩ := List.mem_map.1 ho
  simp [opOf]
theorem sync_ok {room : Int} {s : S} {v : ByteArray} (hl : s.left ≠ 0) (hs : s.no = some v) : (s.d room).sync fn = (0, s.sy.d room) := by
  unfold D.sync
  rw [if_neg (show (s.d room).left ≠ 0 from hl), if_pos (by show ((one s.no).get fn).isSome = true; rw [one_get, hs]; rfl)]
  simp only [S.d, S.sy, D.step, keep_all, one_at, one_put, hs, Option.getD_some, List.map_nil]
theorem sync_off {room : Int} {s : S} (hl : s.left = 0) : (s.d room).sync fn = (22, s.d room) := if_pos hl
theorem crashGo_one (keep : Int) : ∀ (l : List (ByteArray × Bool)) (i : Nat) (m : Option ByteArray) (st : ByteArray → Bool), crashGo keep i (one m) st (l.map opOf) = one (play keep i m (st fn) l)
  | [], _, _, _ => rfl
  | p :: r, i, m, st => by
    simp only [List.map_cons, crashGo, play]
    have e1 : crash1 keep i (opOf p) (one m) st = one (play1 keep i p m (st fn)) := by
      unfold crash1 play1
      simp only [opOf, one_at, one_put]
      split
      · rfl
      · split
        · rfl
        · split
          · rfl
          · split <;> rfl
    have e2 : stuck1 keep i (opOf p) st fn = (st fn || !bitOf keep i) := by simp [stuck1, opOf]
    rw [e1, crashGo_one keep r, e2]
theorem crash_ok {room : Int} {s : S} (keep : Int) : (s.d room).crash keep = (s.cr keep).d room := by
  unfold D.crash
  have e := crashGo_one keep s.l 0 s.ko (fun _ => false)
  simp only [S.d, S.cr, e, List.length_map, List.map_nil]
theorem read_off {room : Int} {s : S} (hl : s.left = 0) : (s.d room).read fn = (ByteArray.empty, 22) := if_pos hl
theorem read_none {room : Int} {s : S} (hl : s.left ≠ 0) (hs : s.no = none) : (s.d room).read fn = (ByteArray.empty, 23) := by
  unfold D.read
  rw [if_neg (show (s.d room).left ≠ 0 from hl), if_neg (by show ¬ ((one s.no).get fn).isSome = true; rw [one_get, hs]; simp)]
theorem read_some {room : Int} {s : S} {v : ByteArray} (hl : s.left ≠ 0) (hs : s.no = some v) : (s.d room).read fn = (v, 0) := by
  unfold D.read
  rw [if_neg (show (s.d room).left ≠ 0 from hl), if_pos (by show ((one s.no).get fn).isSome = true; rw [one_get, hs]; rfl)]
  show ((one s.no).at fn, (0 : Int)) = _
  rw [one_at, hs]
  rfl
theorem new_ok (room : Int) (h0 : 0 ≤ room) (h1 : room ≤ 1000000) : D.new room = (⟨none, none, 0, 0, [], 0, -1⟩ : S).d room := by
  unfold D.new S.d
  rw [← one_none]
  simp only [List.map_nil]
  congr 1
  omega
def sumS : List (ByteArray × Bool) → Nat
  | [] => 0
  | p :: r => p.1.size + sumS r
theorem sumB_map : ∀ l : List (ByteArray × Bool), sumB (l.map opOf) = sumS l
  | [] => rfl
  | p :: r => by simp only [List.map_cons, sumB, sumS, sumB_map r]; rfl
theorem sumS_append (l : List (ByteArray × Bool)) (p : ByteArray × Bool) : sumS (l ++ [p]) = sumS l + p.1.size := by
  induction l with
  | nil => simp [sumS]
  | cons a r ih => simp only [List.cons_append, sumS, ih]; omega
theorem play_size (keep : Int) : ∀ (l : List (ByteArray × Bool)) (i : Nat) (m : Option ByteArray) (st : Bool), ((play keep i m st l).getD ByteArray.empty).size ≤ (m.getD ByteArray.empty).size + sumS l
  | [], _, _, _ => Nat.le_add_right _ _
  | p :: r, i, m, st => by
    have h := play_size keep r (i + 1) (play1 keep i p m st) (st || !bitOf keep i)
    have hh := half_size p.1
    have h1 : ((play1 keep i p m st).getD ByteArray.empty).size ≤ (m.getD ByteArray.empty).size + p.1.size := by
      unfold play1
      split
      · omega
      · split
        · simp
        · split
          · simp [ByteArray.size_append]
          · split
            · simp only [Option.getD_some, ByteArray.size_append]; omega
            · omega
    simp only [play, sumS]
    omega

/-! ### The calls on such a disk -/
theorem S.ok {ko no : Option ByteArray} {kn nn : Nat} {l : List (ByteArray × Bool)} {steps left room : Int}
    (h : 0 ≤ steps ∧ steps ≤ 1000000 ∧ -1 ≤ left ∧ left ≤ 1000000 ∧ nn ≤ 1000000 ∧ kn ≤ 1000000 ∧ l.length ≤ 1000000 ∧ (no.getD ByteArray.empty).size ≤ 1000000 ∧ 0 ≤ room ∧ room ≤ 1000000) : (⟨ko, no, kn, nn, l, steps, left⟩ : S).Ok room := by
  obtain ⟨h1, h2, h3, h4, h5, h6, h7, h8, h9, h10⟩ := h
  exact ⟨h1, h2, h3, h4, h5, h6, h7, h8, h9, h10⟩
/-- A call on such a disk answers r and turns its state from s to s'. -/
abbrev Does (room : Int) (f : FuncId) (args : Nat → Array Value) (r : Value) (s s' : S) : Prop :=
  ∀ (N : Nat → Prop) (g B : Nat) (w : World), At1 N g B w (s.d room) → Calls Try.prog f (args g) w fun e w' => e = .returned r ∧ At1 N g B w' (s'.d room) ∧ Below B w w' ∧ Same N w w'
abbrev Tells (room : Int) (f : FuncId) (args : Nat → Array Value) (r : Value) (s : S) : Prop :=
  ∀ (N : Nat → Prop) (g B : Nat) (w : World), At1 N g B w (s.d room) → Calls Try.prog f (args g) w fun e w' => e = .returned r ∧ w' = w
section
variable {room : Int} {s s' : S}
theorem o_new (room : Int) (h0 : 0 ≤ room) (h1 : room ≤ 1000000) (w : World) : Calls Try.prog 13 #[.int .i64 room] w fun e w' => e = .returned (.pointer (some ⟨w.heap.size + 2, 0, none⟩)) ∧ At1 (fun _ => False) (w.heap.size + 2) w.heap.size w' ((⟨none, none, 0, 0, [], 0, -1⟩ : S).d room) ∧ Below w.heap.size w w' := by
  have := At1.new room w
  rw [new_ok room h0 h1] at this
  exact this
theorem o_append (hk : s.Ok room) (b : ByteArray) (hb : b.size ≤ 1000000) (hl : s.left ≠ 0) (hr : ((s.cur ++ b).size : Int) ≤ room) (he : s.wr (s.cur ++ b) (b, false) = s') :
    Does room 33 (fun g => #[.pointer (some ⟨g, 0, none⟩), .string ⟨#[108, 111, 103]⟩, .string b]) (.int .i64 0) s s' := by
  intro N g B w h
  have := h.append hk.fit fn b (by decide) (by omega)
  rw [app_ok hl hr, he] at this
  exact this
theorem o_append_off (hk : s.Ok room) (b : ByteArray) (hb : b.size ≤ 1000000) (hl : s.left = 0) :
    Does room 33 (fun g => #[.pointer (some ⟨g, 0, none⟩), .string ⟨#[108, 111, 103]⟩, .string b]) (.int .i64 22) s s := by
  intro N g B w h
  have := h.append hk.fit fn b (by decide) (by omega)
  rw [app_off hl] at this
  exact this
theorem o_put (hk : s.Ok room) (b : ByteArray) (hb : b.size ≤ 1000000) (hl : s.left ≠ 0) (hr : (b.size : Int) ≤ room) (he : s.wr b (b, true) = s') :
    Does room 14 (fun g => #[.pointer (some ⟨g, 0, none⟩), .string ⟨#[108, 111, 103]⟩, .string b]) (.int .i64 0) s s' := by
  intro N g B w h
  have := h.put hk.fit fn b (by decide) (by omega)
  rw [show (s.d room).put fn b = (0, (s.wr b (b, true)).d room) from lay_ok (p := (b, true)) hl hr, he] at this
  exact this
theorem o_sync (hk : s.Ok room) {v : ByteArray} (hl : s.left ≠ 0) (hs : s.no = some v) (he : s.sy = s') :
    Does room 15 (fun g => #[.pointer (some ⟨g, 0, none⟩), .string ⟨#[108, 111, 103]⟩]) (.int .i64 0) s s' := by
  intro N g B w h
  have := h.sync hk.fit fn (by decide)
  rw [sync_ok hl hs, he] at this
  exact this
theorem o_sync_off (hk : s.Ok room) (hl : s.left = 0) :
    Does room 15 (fun g => #[.pointer (some ⟨g, 0, none⟩), .string ⟨#[108, 111, 103]⟩]) (.int .i64 22) s s := by
  intro N g B w h
  have := h.sync hk.fit fn (by decide)
  rw [sync_off hl] at this
  exact this
theorem o_crash (hk : s.Ok room) (keep : Int) (hk0 : 0 ≤ keep) (hk1 : keep ≤ 18446744073709551615) (hz : (s.ko.getD ByteArray.empty).size + sumS s.l ≤ 1000000) (he : s.cr keep = s') :
    Does room 20 (fun g => #[.pointer (some ⟨g, 0, none⟩), .int .u64 keep]) (.tuple #[]) s s' := by
  intro N g B w h
  have := h.crash hk.fit keep hk0 hk1 (by
    show (s.ko.getD ByteArray.empty).size + sumB (s.l.map opOf) ≤ _
    rw [sumB_map]; omega) (by
    intro o ho
    obtain ⟨p, _, rfl⟩ := List.mem_map.1 ho
    show fn.size ≤ _
    decide)
  rw [crash_ok, he] at this
  exact this
theorem o_limit (k : Int) (hk : 0 ≤ k) (he : ({ s with left := k } : S) = s') :
    Does room 19 (fun g => #[.pointer (some ⟨g, 0, none⟩), .int .i64 k]) (.tuple #[]) s s' := by
  intro N g B w h
  have := h.limit k
  rw [show (s.d room).limit k = ({ s with left := k } : S).d room by simp only [D.limit, S.d, if_neg (Int.not_lt.2 hk)], he] at this
  exact this
theorem o_read_off (hl : s.left = 0) :
    Tells room 17 (fun g => #[.pointer (some ⟨g, 0, none⟩), .string ⟨#[108, 111, 103]⟩]) (.tuple #[.string ByteArray.empty, .int .i64 22]) s := by
  intro N g B w h
  have := h.read fn (by decide)
  rw [read_off hl] at this
  exact this
theorem o_read_none (hl : s.left ≠ 0) (hs : s.no = none) :
    Tells room 17 (fun g => #[.pointer (some ⟨g, 0, none⟩), .string ⟨#[108, 111, 103]⟩]) (.tuple #[.string ByteArray.empty, .int .i64 23]) s := by
  intro N g B w h
  have := h.read fn (by decide)
  rw [read_none hl hs] at this
  exact this
theorem o_read {v : ByteArray} (hl : s.left ≠ 0) (hs : s.no = some v) :
    Tells room 17 (fun g => #[.pointer (some ⟨g, 0, none⟩), .string ⟨#[108, 111, 103]⟩]) (.tuple #[.string v, .int .i64 0]) s := by
  intro N g B w h
  have := h.read fn (by decide)
  rw [read_some hl hs] at this
  exact this
end

end Go.Proofs.Ytbaefdodchgbkaa.Dk
