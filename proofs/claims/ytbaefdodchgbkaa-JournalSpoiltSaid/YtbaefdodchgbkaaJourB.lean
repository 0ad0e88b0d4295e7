/- The journal on a disk that holds one file: what each call answers and leaves. -/
import Derived.Test.YtbaefdodchgbkaaJourA
import Derived.Test.YtbaefdodchgbkaaJourQ
namespace Go.Proofs.Ytbaefdodchgbkaa.Dk
open Go.RowKit Go.Maps Go.Proofs.YtbaefdodchgbkaaW.PrintWords Go.Proofs.YtbaefdodchgbkaaW.PrintLast Go.Proofs.YtbaefdodchgbkaaW.PrintMore Go.Proofs.Ytbaefdodchgbkaa.Print Go.Proofs.Ytbaefdodchgbkaa.Num
set_option linter.unusedVariables false
set_option linter.unusedSimpArgs false

/-! ### Frames one behind the other -/
def FW (b : ByteArray) : ByteArray := bstr (frame b.data.toList)
def Fr : List ByteArray → List UInt8
  | [] => []
  | t :: r => frame t.data.toList ++ Fr r
theorem Fr_append : ∀ a b, Fr (a ++ b) = Fr a ++ Fr b
  | [], _ => rfl
  | x :: r, b => by simp only [List.cons_append, Fr, Fr_append r b, List.append_assoc]
theorem Fr_snoc (a : List ByteArray) (t : ByteArray) : Fr (a ++ [t]) = Fr a ++ frame t.data.toList := by rw [Fr_append]; simp [Fr]
theorem frame_le (t : ByteArray) (h : t.size ≤ 200) : (frame t.data.toList).length ≤ 214 := by
  have h3 := enc_length10 (n := t.data.toList.length) (by rw [ba_size]; omega)
  rw [frame_length, ba_size]
  rw [ba_size] at h3
  omega
theorem FW_size (t : ByteArray) : (FW t).size = (frame t.data.toList).length := bstr_size _
theorem FW_le (t : ByteArray) (h : t.size ≤ 200) : (FW t).size ≤ 214 := by rw [FW_size]; exact frame_le t h
theorem Fr_le : ∀ (a : List ByteArray), (∀ t ∈ a, t.size ≤ 200) → (Fr a).length ≤ 214 * a.length
  | [], _ => by simp [Fr]
  | t :: r, h => by
    have h1 := Fr_le r (fun y hy => h y (List.mem_cons_of_mem _ hy))
    have h2 := frame_le t (h t List.mem_cons_self)
    simp only [Fr, List.length_append, List.length_cons]
    omega
theorem FW_f (t : ByteArray) (h : t.size ≤ 200) : sum_Wrap.f 10 t = some (FW t) := wrap_f 10 t (by omega) (by omega)
theorem catW_Fr : ∀ l : List ByteArray, catW (l.map FW) = Fr l
  | [] => rfl
  | t :: r => by simp only [List.map_cons, catW, Fr, catW_Fr r]; rfl
theorem bstr_cat (a b : List UInt8) : bstr a ++ bstr b = bstr (a ++ b) := Num.ba_ext (by rw [ba_append]; rfl)

/-! ### Scan of frames -/
theorem scanF_more : ∀ (f : Nat) (l : List UInt8), l.length < f → scanF (f + 1) l = scanF f l
  | 0, _, h => by omega
  | f + 1, l, h => by
    rw [scanF.eq_def (f + 1 + 1), scanF.eq_def (f + 1)]
    simp only
    by_cases hl : l = []
    · rw [if_pos hl, if_pos hl]
    · rw [if_neg hl, if_neg hl]
      by_cases h12 : (opn (bstr l)).2.2 = 12
      · rw [if_pos h12, if_pos h12]
      · rw [if_neg h12, if_neg h12]
        by_cases h0 : (opn (bstr l)).2.2 = 0
        · rw [if_pos h0, if_pos h0]
          have hn : (l.drop (opn (bstr l)).2.1.toNat).length < f := by
            have hp := List.length_pos_iff.2 hl
            rcases opn_cases l with ⟨t, tail, h1, h2, h3⟩ | ⟨t, c, tail, h1, h2, h3, h4, h5⟩ | ⟨h1, h2⟩
            · have hfp := frame_pos t
              rw [h3, List.length_drop]
              dsimp only
              rw [Int.toNat_natCast]
              omega
            · rw [h5] at h0; exact absurd (show (12 : Int) = 0 from h0) (by decide)
            · exact absurd h0 h1
          rw [scanF_more f _ hn]
        · rw [if_neg h0, if_neg h0]
def scan (l : List UInt8) : List ByteArray × Nat × Int := scanF (l.length + 1) l
theorem scan_of (f : Nat) (l : List UInt8) (h : l.length < f) : scanF f l = scan l := by
  unfold scan
  obtain ⟨d, rfl⟩ : ∃ d, f = l.length + 1 + d := ⟨f - (l.length + 1), by omega⟩
  induction d with
  | zero => rfl
  | succ d ih =>
    rw [← ih (by omega)]
    exact scanF_more (l.length + 1 + d) l (by omega)
theorem scan_nil : scan [] = ([], 0, 0) := by simp [scan, scanF]
theorem scan_frame (t tail : List UInt8) (h : t.length ≤ 40000) : scan (frame t ++ tail) = (bstr t :: (scan tail).1, (frame t).length + (scan tail).2.1, (scan tail).2.2) := by
  have hp := frame_pos t
  have ho := opn_frame t tail h
  unfold scan
  rw [scanF.eq_def]
  simp only
  rw [if_neg (fun e => by have := congrArg List.length e; rw [List.length_append, List.length_nil] at this; omega), ho]
  dsimp only
  rw [if_neg (by decide), if_pos rfl, Int.toNat_natCast, List.drop_left, scan_of _ tail (by rw [List.length_append]; omega)]
  rfl
theorem scan_Fr : ∀ (l : List ByteArray) (tail : List UInt8), (∀ t ∈ l, t.size ≤ 200) → scan (Fr l ++ tail) = (l ++ (scan tail).1, (Fr l).length + (scan tail).2.1, (scan tail).2.2)
  | [], tail, _ => by simp [Fr]
  | t :: r, tail, h => by
    have hz := h t (by simp)
    simp only [Fr, List.append_assoc]
    rw [scan_frame _ _ (by rw [ba_size]; omega), scan_Fr r tail (fun x hx => h x (by simp [hx]))]
    refine Prod.ext ?_ (Prod.ext ?_ rfl)
    · simp only [List.cons_append]
      congr 1
    · simp only [List.length_append]; omega
theorem scan_cut (t : List UInt8) (h : t.length ≤ 40000) (p : Nat) (hp : p < (frame t).length) : scan ((frame t).take p) = ([], 0, 0) := by
  unfold scan
  rw [scanF.eq_def]
  simp only
  by_cases h0 : (frame t).take p = []
  · rw [if_pos h0]
  · rw [if_neg h0, opn_cut t h p hp, if_neg (by decide), if_neg (by decide)]
theorem scan_all (l : List ByteArray) (h : ∀ t ∈ l, t.size ≤ 200) : scan (Fr l) = (l, (Fr l).length, 0) := by
  have := scan_Fr l [] h
  rw [List.append_nil, scan_nil] at this
  rw [this]
  simp

/-! ### The calls -/
structure S.Sm (room : Int) (s : S) : Prop where
  s0 : 0 ≤ s.steps
  s1 : s.steps ≤ 1000
  l0 : -1 ≤ s.left
  l1 : s.left ≤ 1000
  nn : s.nn ≤ 1000
  kn : s.kn ≤ 1000
  ll : s.l.length ≤ 1000
  cu : s.cur.size ≤ 100000
  r0 : 0 ≤ room
  r1 : room ≤ 1000000
theorem S.Sm.ok {room : Int} {s : S} (h : s.Sm room) : s.Ok room := by
  obtain ⟨h1, h2, h3, h4, h5, h6, h7, h8, h9, h10⟩ := h
  exact ⟨h1, by omega, h3, by omega, by omega, by omega, by omega, by omega, h9, h10⟩
theorem S.Sm.wr {room : Int} {s : S} (h : s.Sm room) {v : ByteArray} {p : ByteArray × Bool} (hv : v.size ≤ 1000000) : (s.wr v p).Ok room := by
  obtain ⟨h1, h2, h3, h4, h5, h6, h7, h8, h9, h10⟩ := h
  refine ⟨?_, ?_, ?_, ?_, ?_, ?_, ?_, ?_, h9, h10⟩
  · show 0 ≤ s.steps + 1; omega
  · show s.steps + 1 ≤ _; omega
  · show -1 ≤ (if s.left > 0 then s.left - 1 else s.left); split <;> omega
  · show (if s.left > 0 then s.left - 1 else s.left) ≤ _; split <;> omega
  · show s.nn + 1 ≤ _; omega
  · show s.kn ≤ _; omega
  · show (s.l ++ [p]).length ≤ _; rw [List.length_append]; simp; omega
  · show v.size ≤ _; exact hv
def dn (x : Int) : Int := if x > 0 then x - 1 else x
/-- What is there is kept. -/
def S.all (s : S) (v : ByteArray) : S := ⟨some v, some v, s.kn + 1, s.nn + 1, [], s.steps + 2, dn (dn s.left)⟩
section
variable {room : Int} {s s' : S}
theorem jput_ok (hl0 : s.left ≠ 0) (hl1 : s.left ≠ 1) {v : ByteArray} (hr : (v.size : Int) ≤ room) : (s.d room).jput fn v = (0, (s.all v).d room) := by
  have e : (s.d room).put fn v = (0, (s.wr v (v, true)).d room) := lay_ok (p := (v, true)) hl0 hr
  unfold D.jput
  rw [e, if_pos rfl]
  dsimp only
  rw [sync_ok (v := v) (by show (if s.left > 0 then s.left - 1 else s.left) ≠ 0; split <;> omega) rfl]
  refine congrArg (Prod.mk (0 : Int)) (congrArg (S.d room) ?_)
  unfold S.all S.sy S.wr dn
  simp only [S.mk.injEq, true_and]
  refine ⟨by omega, ?_⟩
  trivial
theorem jput_one (hl : s.left = 1) {v : ByteArray} (hr : (v.size : Int) ≤ room) : (s.d room).jput fn v = (22, (s.wr v (v, true)).d room) := by
  have e : (s.d room).put fn v = (0, (s.wr v (v, true)).d room) := lay_ok (p := (v, true)) (by omega) hr
  unfold D.jput
  rw [e, if_pos rfl]
  dsimp only
  rw [sync_off (by show (if s.left > 0 then s.left - 1 else s.left) = 0; rw [if_pos (by omega)]; omega)]
theorem jput_off (hl : s.left = 0) {v : ByteArray} : (s.d room).jput fn v = (22, s.d room) := by
  have e : (s.d room).put fn v = (22, s.d room) := lay_off hl
  unfold D.jput
  rw [e, if_neg (show ¬ ((22 : Int) = 0) by decide)]
theorem jwrite_ok (hl0 : s.left ≠ 0) (hl1 : s.left ≠ 1) {b : ByteArray} (hr : ((s.cur ++ b).size : Int) ≤ room) : (s.d room).jwrite fn b = (0, (s.all (s.cur ++ b)).d room) := by
  have e := app_ok (room := room) hl0 hr
  unfold D.jwrite
  rw [e, if_pos rfl]
  dsimp only
  rw [sync_ok (v := s.cur ++ b) (by show (if s.left > 0 then s.left - 1 else s.left) ≠ 0; split <;> omega) rfl]
  refine congrArg (Prod.mk (0 : Int)) (congrArg (S.d room) ?_)
  unfold S.all S.sy S.wr dn
  simp only [S.mk.injEq, true_and]
  refine ⟨by omega, ?_⟩
  trivial
theorem jwrite_one (hl : s.left = 1) {b : ByteArray} (hr : ((s.cur ++ b).size : Int) ≤ room) : (s.d room).jwrite fn b = (22, (s.wr (s.cur ++ b) (b, false)).d room) := by
  have e := app_ok (room := room) (s := s) (b := b) (by omega) hr
  unfold D.jwrite
  rw [e, if_pos rfl]
  dsimp only
  rw [sync_off (by show (if s.left > 0 then s.left - 1 else s.left) = 0; rw [if_pos (by omega)]; omega)]
theorem jwrite_off (hl : s.left = 0) {b : ByteArray} : (s.d room).jwrite fn b = (22, s.d room) := by
  have e : (s.d room).app fn b = (22, s.d room) := app_off hl
  unfold D.jwrite
  rw [e, if_neg (show ¬ ((22 : Int) = 0) by decide)]

abbrev Writes (room : Int) (b : ByteArray) (r : Int) (s s' : S) : Prop := Does room 18 (fun g => #[.pointer (some ⟨g, 0, none⟩), .string ⟨#[108, 111, 103]⟩, .string b]) (.int .i64 r) s s'
theorem writes_of (hk : s.Sm room) (b : ByteArray) (hb : b.size ≤ 200) {r : Int} (he : (s.d room).jwrite fn (FW b) = (r, s'.d room)) (hr : ((s.cur ++ FW b).size : Int) ≤ room) : Writes room b r s s' := by
  intro N g B w h
  have hz := FW_le b hb
  have := h.jwrite hk.ok.fit fn b (FW b) 10 (FW_f b hb) (by
    by_cases hl : s.left = 0
    · rw [app_off hl]; exact hk.ok.fit
    · rw [app_ok hl hr]; exact (hk.wr (by rw [ByteArray.size_append]; have := hk.cu; omega)).fit) (by decide) (by omega)
  rw [he] at this
  exact this
abbrev Renews (room : Int) (l : List ByteArray) (r : Int) (s s' : S) : Prop := ∀ (N : Nat → Prop) (g B : Nat) (w : World) (x : Option Addr) (c : Nat), At1 N g B w (s.d room) → ReadsOf Value.string ByteArray.empty w x l.length l →
  Calls Try.prog 21 #[.pointer (some ⟨g, 0, none⟩), .string ⟨#[108, 111, 103]⟩, .slice x l.length c] w fun e w' => e = .returned (.int .i64 r) ∧ At1 N g B w' (s'.d room) ∧ Below B w w' ∧ Same N w w'
theorem renews_of (hk : s.Sm room) (l : List ByteArray) (hl : l.length ≤ 100) (hz : ∀ t ∈ l, t.size ≤ 200) {r : Int} (he : (s.d room).jput fn (bstr (Fr l)) = (r, s'.d room)) (hr : ((bstr (Fr l)).size : Int) ≤ room) : Renews room l r s s' := by
  intro N g B w x c h R
  have e : (⟨(catW (l.map FW)).toArray⟩ : ByteArray) = bstr (Fr l) := by rw [catW_Fr]; rfl
  have := h.jrenew hk.ok.fit fn (by decide) x c l (l.map FW) 10 (by simp) (by omega) R (fun i h1 h2 => by rw [List.getElem_map]; exact FW_f _ (hz _ (List.getElem_mem h1))) (fun b hb => by
      obtain ⟨t, ht, rfl⟩ := List.mem_map.1 hb
      have := FW_le t (hz t ht); omega) (by
    rw [e]
    by_cases hl : s.left = 0
    · rw [show (s.d room).put fn (bstr (Fr l)) = (22, s.d room) from lay_off hl]; exact hk.ok.fit
    · rw [show (s.d room).put fn (bstr (Fr l)) = (0, (s.wr (bstr (Fr l)) (bstr (Fr l), true)).d room) from lay_ok (p := (bstr (Fr l), true)) hl hr]
      exact (hk.wr (by have := hk.r1; omega)).fit)
  rw [e, he] at this
  exact this
abbrev Opens (room : Int) (l : List ByteArray) (s s' : S) : Prop := ∀ (N : Nat → Prop) (g B : Nat) (w : World), At1 N g B w (s.d room) →
  Calls Try.prog 16 #[.pointer (some ⟨g, 0, none⟩), .string ⟨#[108, 111, 103]⟩] w fun e w' => ∃ v N', e = .returned (.tuple #[v, .int .i64 0]) ∧ (∀ k, N k → N' k) ∧ Row N' w' v l ∧ At1 N' g B w' (s'.d room) ∧ Below B w w' ∧ Same N w w'
/-- What Open leaves: the records alone. -/
theorem opens_of (hk : s.Sm room) (hl : s.left = -1) (hr : (s.cur.size : Int) ≤ room) {l : List ByteArray} {n : Nat} (hs : scan s.cur.data.toList = (l, n, 0)) (hn : n ≤ s.cur.size) :
    ∃ s' : S, Opens room l s s' ∧ s'.left = -1 ∧ s'.cur = bstr (s.cur.data.toList.take n) ∧ 0 ≤ s'.steps ∧ s'.steps ≤ s.steps + 2 ∧ s'.nn ≤ s.nn + 1 ∧ s'.kn ≤ s.kn + 1 ∧ s'.l.length ≤ s.l.length := by
  have hcs := ba_size s.cur
  have hcu := hk.cu
  have hfull : n = s.cur.size → bstr (s.cur.data.toList.take n) = s.cur := fun e => Num.ba_ext (by rw [bstr_list, List.take_of_length_le (by omega)])
  cases ho : s.no with
  | none =>
    have hc : s.cur = ByteArray.empty := by unfold S.cur; rw [ho]; rfl
    have hn0 : n = 0 := by rw [hc] at hn; simpa using hn
    have hl0 : l = [] := by
      rw [hc] at hs
      rw [show (ByteArray.empty).data.toList = [] from rfl, scan_nil] at hs
      exact (congrArg Prod.fst hs).symm
    subst hl0
    refine ⟨s, fun N g B w h => ?_, hl, ?_, hk.s0, by omega, by omega, by omega, Nat.le_refl _⟩
    · refine (h.open_none fn (by decide) (read_none (by omega) ho)).mono ?_
      rintro e w' ⟨rfl, rfl⟩
      exact ⟨_, N, rfl, fun _ hk => hk, ⟨0, Kd.R_nil _ _ _ _ _⟩, h, Below.refl _ _, fun _ _ => rfl⟩
    · rw [hfull (by rw [hc, hn0]; rfl)]
  | some v =>
    have hv : s.cur = v := by unfold S.cur; rw [ho]; rfl
    have hrd : (s.d room).read fn = (s.cur, 0) := by rw [hv]; exact read_some (by omega) ho
    have hf := scan_f s.cur (by omega) (2 * s.cur.size + 2) (Nat.le_refl _)
    rw [show scanF (s.cur.size + 1) s.cur.data.toList = scan s.cur.data.toList by unfold scan; rw [hcs], hs] at hf
    dsimp only at hf
    by_cases hlt : n < s.cur.size
    · have hx : s.cur.extract 0 n = bstr (s.cur.data.toList.take n) := Num.ba_ext (by rw [Lib.extract_data, bstr_list]; simp)
      have hxz : (s.cur.extract 0 n).size ≤ s.cur.size := by rw [ByteArray.size_extract]; omega
      have hj : (s.d room).jput fn (s.cur.extract 0 n) = (0, (s.all (s.cur.extract 0 n)).d room) := jput_ok (by omega) (by omega) (by omega)
      have hp : (s.d room).put fn (s.cur.extract 0 n) = (0, (s.wr (s.cur.extract 0 n) (s.cur.extract 0 n, true)).d room) := lay_ok (p := (s.cur.extract 0 n, true)) (by omega) (by omega)
      refine ⟨s.all (s.cur.extract 0 n), fun N g B w h => ?_, ?_, ?_, ?_, ?_, ?_, ?_, ?_⟩
      · exact h.open_cut hk.ok.fit fn (by decide) s.cur hrd _ l n hf hlt (by omega) (by rw [hp]; exact (hk.wr (by omega)).fit) _ hj
      · show dn (dn s.left) = -1; rw [hl]; rfl
      · show s.cur.extract 0 n = _; exact hx
      · show 0 ≤ s.steps + 2; have := hk.s0; omega
      · show s.steps + 2 ≤ _; omega
      · show s.nn + 1 ≤ _; omega
      · show s.kn + 1 ≤ _; omega
      · show 0 ≤ _; omega
    · have hn2 : n = s.cur.size := by omega
      refine ⟨s, fun N g B w h => ?_, hl, ?_, hk.s0, by omega, by omega, by omega, Nat.le_refl _⟩
      · rw [hn2] at hf
        exact h.open_ok fn (by decide) s.cur hrd _ l hf
      · rw [hfull hn2]
end

end Go.Proofs.Ytbaefdodchgbkaa.Dk
