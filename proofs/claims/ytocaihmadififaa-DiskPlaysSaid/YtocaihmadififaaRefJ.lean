/- Two disks, a copy, a block besides: what stands apart in one heap. -/
import Derived.Test.YtocaihmadififaaRefI
import Derived.Test.YtocaihmadififaaCopy
import Derived.Test.YtocaihmadififaaRefL
import Derived.Test.YtocaihmadififaaDiskG
namespace Go.Proofs.Ytocaihmadififaa.Dk
open Go.RowKit Go.Maps
set_option linter.unusedVariables false
set_option linter.unusedSimpArgs false

/-- Both disks, above the bound B. -/
def T2 (B g gr : Nat) (w : World) (d : D) (r : R) : Prop :=
  ∃ (F : Foot) (G : RF), F.g = g ∧ G.g = gr ∧ IsDisk w F d ∧ IsR w G r ∧ (∀ k, F.has k → B ≤ k) ∧ (∀ k, G.has k → B ≤ k) ∧ B ≤ w.heap.size ∧ (∀ k, F.has k → ¬ G.has k)
/-- .. and a copy, and a block (sb) that none of them holds. -/
def T3 (B g gr gc sb : Nat) (ob : Obj) (w : World) (d : D) (r : R) (c : D) : Prop :=
  ∃ (F : Foot) (G : RF) (C : Foot), F.g = g ∧ G.g = gr ∧ C.g = gc ∧ IsDisk w F d ∧ IsR w G r ∧ IsDisk w C c ∧ (∀ k, F.has k → B ≤ k) ∧ (∀ k, G.has k → B ≤ k) ∧ (∀ k, C.has k → B ≤ k) ∧ B ≤ w.heap.size ∧
    (∀ k, F.has k → ¬ G.has k) ∧ (∀ k, F.has k → ¬ C.has k) ∧ (∀ k, G.has k → ¬ C.has k) ∧ w.heap[sb]? = some ob ∧ ¬ F.has sb ∧ ¬ G.has sb ∧ ¬ C.has sb
section
variable {B g gr gc sb : Nat} {ob : Obj} {w w' : World} {d c : D} {r : R}
theorem T3.two (h : T3 B g gr gc sb ob w d r c) : T2 B g gr w d r := by
  obtain ⟨F, G, C, h1, h2, _, h3, h4, _, h5, h6, _, h7, h8, _⟩ := h
  exact ⟨F, G, h1, h2, h3, h4, h5, h6, h7, h8⟩
theorem T3.drew (h : T3 B g gr gc sb ob w d r c) : T3 B g gr gc sb ob w.drew d r c := by
  obtain ⟨F, G, C, h1, h2, h3, h4, h5, h6, h7⟩ := h
  exact ⟨F, G, C, h1, h2, h3, h4.kept_ (fun _ _ => rfl), h5.kept_ (fun _ _ => rfl), h6.kept_ (fun _ _ => rfl), h7⟩
theorem T2.drew (h : T2 B g gr w d r) : T2 B g gr w.drew d r := by
  obtain ⟨F, G, h1, h2, h4, h5, h7⟩ := h
  exact ⟨F, G, h1, h2, h4.kept_ (fun _ _ => rfl), h5.kept_ (fun _ _ => rfl), h7⟩
theorem T3.block (h : T3 B g gr gc sb ob w d r c) : w.heap[sb]? = some ob := by
  obtain ⟨F, G, C, _, _, _, _, _, _, _, _, _, _, _, _, _, h, _⟩ := h
  exact h
theorem T3.rsteps (h : T3 B g gr gc sb ob w d r c) : w.cell? ⟨gr, 3, none⟩ = some (.int .i64 r.steps) := by
  obtain ⟨F, G, C, _, rfl, _, _, h, _⟩ := h
  exact h.c.2.2.2.1
theorem T3.runD {f : FuncId} {args : Array Value} {P : Ending → Prop} {d' : D} (h : T3 B g gr gc sb ob w d r c)
    (k : ∀ F : Foot, F.g = g → IsDisk w F d → Calls Try.prog f args w fun e w' => P e ∧ ∃ F', IsDisk w' F' d' ∧ Turn w w' F F') :
    Calls Try.prog f args w fun e w' => P e ∧ T3 B g gr gc sb ob w' d' r c ∧ Below B w w' := by
  obtain ⟨F, G, C, h1, h2, h3, h4, h5, h6, h7, h8, h9, h10, h11, h12, h13, h14, h15, h16, h17⟩ := h
  refine (k F h1 h4).mono fun e w' ⟨he, F', HD, HT⟩ => ⟨he, ?_, HT.below (Below.refl B w) h7 h10⟩
  have hsb : sb < w.heap.size := (Array.getElem?_eq_some_iff.1 h14).1
  have far : ∀ k, F'.has k → F.has k ∨ w.heap.size ≤ k := HT.foot
  refine ⟨F', G, C, HT.g.trans h1, h2, h3, HD, h5.kept_ (fun k hk => HT.block k (h5.lt k hk) (fun e => h11 k e hk)), h6.kept_ (fun k hk => HT.block k (h6.lt k hk) (fun e => h12 k e hk)), fun k hk => ?_, h8, h9, Nat.le_trans h10 HT.size, fun k hk hk2 => ?_, fun k hk hk2 => ?_, h13, (HT.block _ hsb h15).trans h14, fun e => ?_, h16, h17⟩
  · rcases far k hk with e | e
    · exact h7 k e
    · omega
  · rcases far k hk with e | e
    · exact h11 k e hk2
    · have := h5.lt k hk2; omega
  · rcases far k hk with e | e
    · exact h12 k e hk2
    · have := h6.lt k hk2; omega
  · rcases far _ e with e | e
    · exact h15 e
    · omega
theorem T3.runC {f : FuncId} {args : Array Value} {P : Ending → Prop} {c' : D} (h : T3 B g gr gc sb ob w d r c)
    (k : ∀ F : Foot, F.g = gc → IsDisk w F c → Calls Try.prog f args w fun e w' => P e ∧ ∃ F', IsDisk w' F' c' ∧ Turn w w' F F') :
    Calls Try.prog f args w fun e w' => P e ∧ T3 B g gr gc sb ob w' d r c' ∧ Below B w w' := by
  obtain ⟨F, G, C, h1, h2, h3, h4, h5, h6, h7, h8, h9, h10, h11, h12, h13, h14, h15, h16, h17⟩ := h
  refine (k C h3 h6).mono fun e w' ⟨he, C', HD, HT⟩ => ⟨he, ?_, HT.below (Below.refl B w) h9 h10⟩
  have hsb : sb < w.heap.size := (Array.getElem?_eq_some_iff.1 h14).1
  have far : ∀ k, C'.has k → C.has k ∨ w.heap.size ≤ k := HT.foot
  refine ⟨F, G, C', h1, h2, HT.g.trans h3, h4.kept_ (fun k hk => HT.block k (h4.lt k hk) (fun e => h12 k hk e)), h5.kept_ (fun k hk => HT.block k (h5.lt k hk) (fun e => h13 k hk e)), HD, h7, h8, fun k hk => ?_, Nat.le_trans h10 HT.size, h11, fun k hk hk2 => ?_, fun k hk hk2 => ?_, (HT.block _ hsb h17).trans h14, h15, h16, fun e => ?_⟩
  · rcases far k hk with e | e
    · exact h9 k e
    · omega
  · rcases far k hk2 with e | e
    · exact h12 k hk e
    · have := h4.lt k hk; omega
  · rcases far k hk2 with e | e
    · exact h13 k hk e
    · have := h5.lt k hk; omega
  · rcases far _ e with e | e
    · exact h17 e
    · omega
theorem RTurn.below {w0 w w' : World} {F F' : RF} {B : Nat} (hb : Below B w0 w) (h : RTurn w w' F F') (hf : ∀ k, F.has k → B ≤ k) (hB : B ≤ w.heap.size) : Below B w0 w' :=
  ⟨h.os.trans hb.os, h.tape.trans hb.tape, h.output.trans hb.output, Nat.le_trans hb.size h.size, fun k hk => (h.block k (by omega) (fun e => by have := hf k e; omega)).trans (hb.block k hk)⟩
theorem T3.runR {f : FuncId} {args : Array Value} {P : Ending → R → Prop} (h : T3 B g gr gc sb ob w d r c)
    (k : ∀ G : RF, G.g = gr → IsR w G r → Calls Try.prog f args w fun e w' => ∃ r' G', P e r' ∧ IsR w' G' r' ∧ RTurn w w' G G') :
    Calls Try.prog f args w fun e w' => ∃ r', P e r' ∧ T3 B g gr gc sb ob w' d r' c ∧ Below B w w' := by
  obtain ⟨F, G, C, h1, h2, h3, h4, h5, h6, h7, h8, h9, h10, h11, h12, h13, h14, h15, h16, h17⟩ := h
  refine (k G h2 h5).mono fun e w' ⟨r', G', he, HD, HT⟩ => ⟨r', he, ?_, HT.below (Below.refl B w) h8 h10⟩
  have hsb : sb < w.heap.size := (Array.getElem?_eq_some_iff.1 h14).1
  have far : ∀ k, G'.has k → G.has k ∨ w.heap.size ≤ k := HT.foot
  refine ⟨F, G', C, h1, HT.g.trans h2, h3, h4.kept_ (fun k hk => HT.block k (h4.lt k hk) (fun e => h11 k hk e)), HD, h6.kept_ (fun k hk => HT.block k (h6.lt k hk) (fun e => h13 k e hk)), h7, fun k hk => ?_, h9, Nat.le_trans h10 HT.size, fun k hk hk2 => ?_, h12, fun k hk hk2 => ?_, (HT.block _ hsb h16).trans h14, h15, fun e => ?_, h17⟩
  · rcases far k hk with e | e
    · exact h8 k e
    · omega
  · rcases far k hk2 with e | e
    · exact h11 k hk e
    · have := h4.lt k hk; omega
  · rcases far k hk with e | e
    · exact h13 k e hk2
    · have := h6.lt k hk2; omega
  · rcases far _ e with e | e
    · exact h16 e
    · omega
/-- A world with more. -/
theorem T2.on (h : T2 B g gr w d r) (hb : Below w.heap.size w w') : T2 B g gr w' d r := by
  obtain ⟨F, G, h1, h2, h3, h4, h5, h6, h7, h8⟩ := h
  exact ⟨F, G, h1, h2, h3.on hb, h4.on hb, h5, h6, Nat.le_trans h7 hb.size, h8⟩
theorem T2.copy (h : T2 B g gr w d r) {sb : Nat} {ob : Obj} {w1 : World} (hb : Below w.heap.size w w1) (hs : w1.heap[sb]? = some ob) (hsb : w.heap.size ≤ sb) (hlen : d.pend.length ≤ 1048576) :
    Calls Try.prog 18 #[.pointer (some ⟨g, 0, none⟩)] w1 fun e w' => ∃ gc, e = .returned (.pointer (some ⟨gc, 0, none⟩)) ∧ T3 B g gr gc sb ob w' d r d ∧ Below B w1 w' := by
  obtain ⟨F, G, h1, h2, h3, h4, h5, h6, h7, h8⟩ := h
  subst h1
  have hsz := hb.size
  have hs1 : sb < w1.heap.size := (Array.getElem?_eq_some_iff.1 hs).1
  refine (copy_calls (h3.on hb) hlen).mono fun e w' ⟨C, he, HC, hC, hb2⟩ => ⟨C.g, he, ?_, hb2.mono (by omega)⟩
  exact ⟨F, G, C, rfl, h2, rfl, (h3.on hb).on hb2, (h4.on hb).on hb2, HC, h5, h6, fun k hk => by have := hC k hk; omega, by have := hb2.size; omega, h8, fun k hk hk2 => by have := hC k hk2; have := h3.lt k hk; omega, fun k hk hk2 => by have := hC k hk2; have := h4.lt k hk; omega,
    (hb2.block sb hs1).trans hs, fun e => by have := h3.lt _ e; omega, fun e => by have := h4.lt _ e; omega, fun e => by have := hC _ e; omega⟩
theorem rlay {w : World} {F : RF} {r : R} (h : IsR w F r) (hf : r.Fit) (name b : ByteArray) (put : Bool) (hb : b.size ≤ 1000000) :
    Calls Try.prog 19 #[.pointer (some ⟨F.g, 0, none⟩), .string name, .string b, .bool put] w fun e w' => ∃ code r' F', e = .returned (.int .i64 code) ∧ Laid r name b put code r' ∧ IsR w' F' r' ∧ RTurn w w' F F' := by
  by_cases hl : r.left = 0
  · exact (lay_off_calls h name b put hl).mono fun e w' ⟨he, hw⟩ => ⟨22, r, F, he, .inl ⟨hl, rfl, rfl⟩, by rw [hw]; exact h, by rw [hw]; exact RTurn.refl _ _⟩
  · exact lay_calls h hf name b put hb hl
theorem T3.append (h : T3 B g gr gc sb ob w d r c) (hf : d.Fit) (name b : ByteArray) (hn : name.size ≤ 20) (hb : b.size ≤ 200) :
    Calls Try.prog 10 #[.pointer (some ⟨g, 0, none⟩), .string name, .string b] w fun e w' => e = .returned (.int .i64 (d.app name b).1) ∧ T3 B g gr gc sb ob w' (d.app name b).2 r c ∧ Below B w w' :=
  h.runD (P := fun e => e = .returned (.int .i64 (d.app name b).1)) fun F hg HD => by subst hg; exact append_calls HD hf name b (by omega) (by omega)
theorem T3.put (h : T3 B g gr gc sb ob w d r c) (hf : d.Fit) (name b : ByteArray) (hn : name.size ≤ 20) (hb : b.size ≤ 200) :
    Calls Try.prog 14 #[.pointer (some ⟨g, 0, none⟩), .string name, .string b] w fun e w' => e = .returned (.int .i64 (d.put name b).1) ∧ T3 B g gr gc sb ob w' (d.put name b).2 r c ∧ Below B w w' :=
  h.runD (P := fun e => e = .returned (.int .i64 (d.put name b).1)) fun F hg HD => by subst hg; exact put_calls HD hf name b (by omega) (by omega)
theorem T3.sync (h : T3 B g gr gc sb ob w d r c) (hf : d.Fit) (name : ByteArray) (hn : name.size ≤ 20) :
    Calls Try.prog 11 #[.pointer (some ⟨g, 0, none⟩), .string name] w fun e w' => e = .returned (.int .i64 (d.sync name).1) ∧ T3 B g gr gc sb ob w' (d.sync name).2 r c ∧ Below B w w' :=
  h.runD (P := fun e => e = .returned (.int .i64 (d.sync name).1)) fun F hg HD => by subst hg; exact sync_calls HD hf name (by omega)
theorem T3.limit (h : T3 B g gr gc sb ob w d r c) (k : Int) :
    Calls Try.prog 15 #[.pointer (some ⟨g, 0, none⟩), .int .i64 k] w fun e w' => e = .returned (.tuple #[]) ∧ T3 B g gr gc sb ob w' (d.limit k) r c ∧ Below B w w' :=
  h.runD (P := fun e => e = .returned (.tuple #[])) fun F hg HD => by subst hg; exact (limit_calls HD k).mono fun e w' ⟨he, h1, h2⟩ => ⟨he, F, h1, h2⟩
theorem T3.crash (h : T3 B g gr gc sb ob w d r c) (hf : d.Fit) (keep : Int) (hk0 : 0 ≤ keep) (hk1 : keep ≤ 18446744073709551615) (hc : d.kept.tot + sumB d.pend ≤ 1000000000 ∧ ∀ o ∈ d.pend, o.name.size ≤ 1152921504606846976) :
    Calls Try.prog 12 #[.pointer (some ⟨g, 0, none⟩), .int .u64 keep] w fun e w' => e = .returned (.tuple #[]) ∧ T3 B g gr gc sb ob w' (d.crash keep) r c ∧ Below B w w' :=
  h.runD (P := fun e => e = .returned (.tuple #[])) fun F hg HD => by subst hg; exact crash_calls HD hf keep hk0 hk1 (by have := hc.1; omega) hc.2
theorem T3.cappend (h : T3 B g gr gc sb ob w d r c) (hf : c.Fit) (name b : ByteArray) (hn : name.size ≤ 20) (hb : b.size ≤ 200) :
    Calls Try.prog 10 #[.pointer (some ⟨gc, 0, none⟩), .string name, .string b] w fun e w' => e = .returned (.int .i64 (c.app name b).1) ∧ T3 B g gr gc sb ob w' d r (c.app name b).2 ∧ Below B w w' :=
  h.runC (P := fun e => e = .returned (.int .i64 (c.app name b).1)) fun F hg HD => by subst hg; exact append_calls HD hf name b (by omega) (by omega)
theorem T3.ccrash (h : T3 B g gr gc sb ob w d r c) (hf : c.Fit) (keep : Int) (hk0 : 0 ≤ keep) (hk1 : keep ≤ 18446744073709551615) (hc : c.kept.tot + sumB c.pend ≤ 1152921504606846976 ∧ ∀ o ∈ c.pend, o.name.size ≤ 1152921504606846976) :
    Calls Try.prog 12 #[.pointer (some ⟨gc, 0, none⟩), .int .u64 keep] w fun e w' => e = .returned (.tuple #[]) ∧ T3 B g gr gc sb ob w' d r (c.crash keep) ∧ Below B w w' :=
  h.runC (P := fun e => e = .returned (.tuple #[])) fun F hg HD => by subst hg; exact crash_calls HD hf keep hk0 hk1 hc.1 hc.2
theorem T3.read (h : T3 B g gr gc sb ob w d r c) (name : ByteArray) (hn : name.size ≤ 20) :
    Calls Try.prog 13 #[.pointer (some ⟨g, 0, none⟩), .string name] w fun e w' => e = .returned (.tuple #[.string (d.read name).1, .int .i64 (d.read name).2]) ∧ w' = w := by
  obtain ⟨F, G, C, rfl, _, _, HD, _⟩ := h
  exact read_calls HD name (by unfold maxLen; omega)
theorem T3.steps (h : T3 B g gr gc sb ob w d r c) :
    Calls Try.prog 16 #[.pointer (some ⟨g, 0, none⟩)] w fun e w' => e = .returned (.int .i64 d.steps) ∧ w' = w := by
  obtain ⟨F, G, C, rfl, _, _, HD, _⟩ := h
  exact steps_calls HD
theorem T3.rlay (h : T3 B g gr gc sb ob w d r c) (hf : r.Fit) (name b : ByteArray) (put : Bool) (hb : b.size ≤ 200) :
    Calls Try.prog 19 #[.pointer (some ⟨gr, 0, none⟩), .string name, .string b, .bool put] w fun e w' => ∃ r', (∃ code, e = .returned (.int .i64 code) ∧ Laid r name b put code r') ∧ T3 B g gr gc sb ob w' d r' c ∧ Below B w w' :=
  h.runR (P := fun e r' => ∃ code, e = .returned (.int .i64 code) ∧ Laid r name b put code r') fun F hg HD => by subst hg; exact (Dk.rlay HD hf name b put (by omega)).mono fun e w' ⟨code, r', F', h1, h2, h3, h4⟩ => ⟨r', F', ⟨code, h1, h2⟩, h3, h4⟩
theorem T3.rsync (h : T3 B g gr gc sb ob w d r c) (hf : r.Fit) (name : ByteArray) :
    Calls Try.prog 20 #[.pointer (some ⟨gr, 0, none⟩), .string name] w fun e w' => ∃ r', (∃ code, e = .returned (.int .i64 code) ∧ Synced r name code r') ∧ T3 B g gr gc sb ob w' d r' c ∧ Below B w w' :=
  h.runR (P := fun e r' => ∃ code, e = .returned (.int .i64 code) ∧ Synced r name code r') fun F hg HD => by subst hg; exact (Dk.rsync HD hf name).mono fun e w' ⟨code, r', F', h1, h2, h3, h4⟩ => ⟨r', F', ⟨code, h1, h2⟩, h3, h4⟩
theorem T3.rlimit (h : T3 B g gr gc sb ob w d r c) (k : Int) :
    Calls Try.prog 21 #[.pointer (some ⟨gr, 0, none⟩), .int .i64 k] w fun e w' => e = .returned (.tuple #[]) ∧ T3 B g gr gc sb ob w' d (r.limit k) c ∧ Below B w w' :=
  (h.runR (P := fun e r' => e = .returned (.tuple #[]) ∧ r' = r.limit k) fun F hg HD => by subst hg; exact (rlimit_calls HD k).mono fun e w' ⟨h1, h2, h3⟩ => ⟨r.limit k, F, ⟨h1, rfl⟩, h2, h3⟩).mono fun e w' ⟨r', ⟨h1, h2⟩, h3, h4⟩ => ⟨h1, by rw [← h2]; exact h3, h4⟩
theorem T3.rcrash (h : T3 B g gr gc sb ob w d r c) (hf : r.Fit) (keep : Int) (hk0 : 0 ≤ keep) (hk1 : keep ≤ 18446744073709551615) (hn : ∀ o ∈ r.p, o.name ∈ r.l.map Fl.name) (hc : (∀ o ∈ r.p, o.name.size ≤ 1152921504606846976) ∧ ∀ f ∈ r.l, f.kept.size + sumB r.p ≤ 1152921504606846976) :
    Calls Try.prog 22 #[.pointer (some ⟨gr, 0, none⟩), .int .u64 keep] w fun e w' => e = .returned (.tuple #[]) ∧ T3 B g gr gc sb ob w' d (r.crashed keep) c ∧ Below B w w' :=
  (h.runR (P := fun e r' => e = .returned (.tuple #[]) ∧ r' = r.crashed keep) fun F hg HD => by subst hg; exact (rcrash_calls HD hf keep hk0 hk1 hn hc.1 hc.2).mono fun e w' ⟨h1, F', h2, h3⟩ => ⟨r.crashed keep, F', ⟨h1, rfl⟩, h2, h3⟩).mono fun e w' ⟨r', ⟨h1, h2⟩, h3, h4⟩ => ⟨h1, by rw [← h2]; exact h3, h4⟩
theorem T3.rread (h : T3 B g gr gc sb ob w d r c) (name : ByteArray) (hlen : r.l.length ≤ 1048576) :
    Calls Try.prog 23 #[.pointer (some ⟨gr, 0, none⟩), .string name] w fun e w' => e = .returned (.tuple #[.string (r.read name).1, .int .i64 (r.read name).2]) ∧ w' = w := by
  obtain ⟨F, G, C, _, rfl, _, _, HR, _⟩ := h
  exact rread_calls HR name hlen
end

end Go.Proofs.Ytocaihmadififaa.Dk
