/- NumRows: numbers and texts one behind the other are read in their order. For every input. -/
import Derived.Test.YtgedcomfbkgkoaaWalkNumRows
import Derived.Test.YtgedcomfbkgkoaaNumB
import Derived.Test.YtgedcomfbkgkoaaNumE
namespace Go.Proofs.Ytgedcomfbkgkoaa.Pure
open Go.RowKit Go.Proofs.Ytgedcomfbkgkoaa.Print Go.Proofs.YtgedcomfbkgkoaaW.PrintWords Go.Proofs.YtgedcomfbkgkoaaW.PrintLast Go.Proofs.YtgedcomfbkgkoaaW.PrintMore Go.Proofs.Ytgedcomfbkgkoaa.Num

def E : List Int → List UInt8
  | [] => []
  | x :: r => enc x.toNat ++ E r
def T : List ByteArray → List UInt8
  | [] => []
  | t :: r => enc t.size ++ t.data.toList ++ T r
theorem E_append : ∀ a b, E (a ++ b) = E a ++ E b
  | [], b => rfl
  | x :: r, b => by simp only [List.cons_append, E, E_append r b, List.append_assoc]
theorem T_append : ∀ a b, T (a ++ b) = T a ++ T b
  | [], b => rfl
  | x :: r, b => by simp only [List.cons_append, T, T_append r b, List.append_assoc]
theorem E_snoc (a : List Int) (x : Int) : E (a ++ [x]) = E a ++ enc x.toNat := by rw [E_append]; simp [E]
theorem T_snoc (a : List ByteArray) (t : ByteArray) : T (a ++ [t]) = T a ++ (enc t.size ++ t.data.toList) := by rw [T_append]; simp [T]
theorem E_le : ∀ (a : List Int), (∀ x ∈ a, 0 ≤ x ∧ x < 18446744073709551616) → (E a).length ≤ 10 * a.length
  | [], _ => by simp [E]
  | x :: r, h => by
    have h1 := E_le r (fun y hy => h y (List.mem_cons_of_mem _ hy))
    have h2 := h x List.mem_cons_self
    have h3 := enc_length10 (n := x.toNat) (by omega)
    simp only [E, List.length_append, List.length_cons]
    omega
theorem T_le : ∀ (a : List ByteArray), (∀ t ∈ a, t.size ≤ 200) → (T a).length ≤ 210 * a.length
  | [], _ => by simp [T]
  | t :: r, h => by
    have h1 := T_le r (fun y hy => h y (List.mem_cons_of_mem _ hy))
    have h2 := h t List.mem_cons_self
    have h3 := enc_length10 (n := t.size) (by omega)
    have h4 := ba_size t
    simp only [T, List.length_append, List.length_cons]
    omega

theorem rd_mid (done rest : List Int) (x : Int) : rd (done ++ x :: rest) done.length = x := by
  unfold rd
  simp
theorem rdOf_mid (done rest : List ByteArray) (x : ByteArray) : rdOf ByteArray.empty (done ++ x :: rest) done.length = x := by
  unfold rdOf
  simp
theorem extract_tail (p q : List UInt8) : (bstr (p ++ q)).extract ((p.length : Nat) : Int).toNat (bstr (p ++ q)).size = bstr q := by
  refine ba_ext ?_
  rw [Lib.extract_to_end, bstr_list, bstr_list, Int.toNat_natCast, List.drop_left]

theorem rows_l3 (p : List UInt8) (hp : p.length ≤ 300) (x1 : List ByteArray) (hx : x1.length ≤ 20) : ∀ (rest done : List ByteArray) (k : Nat), x1 = done ++ rest → (∀ t ∈ x1, t.size ≤ 200) → rest.length < k →
    vedettelaw1_NumRows.l3 k x1 (bstr (p ++ T x1)) ((p ++ T done).length : Nat) (done.length : Nat) = some true := by
  intro rest
  induction rest with
  | nil =>
    intro done k h ht hk
    obtain ⟨k, rfl⟩ : ∃ m, k = m + 1 := ⟨k - 1, by omega⟩
    simp only [vedettelaw1_NumRows.l3]
    have e : done = x1 := by rw [h, List.append_nil]
    subst e
    rw [if_neg (by omega), bstr_size]
    simp
  | cons t rest ih =>
    intro done k h ht hk
    obtain ⟨k, rfl⟩ : ∃ m, k = m + 1 := ⟨k - 1, by omega⟩
    have hts : t.size ≤ 200 := ht t (by rw [h]; simp)
    have hT := T_le x1 ht
    have hlen : done.length + rest.length + 1 = x1.length := by rw [h]; simp; omega
    have hsplit : p ++ T x1 = (p ++ T done) ++ (enc t.data.toList.length ++ t.data.toList ++ T rest) := by
      rw [h, T_append, ba_size]
      simp only [T, List.append_assoc]
    have hl : (p ++ T x1).length = (p ++ T done).length + (enc t.data.toList.length ++ t.data.toList ++ T rest).length := by rw [hsplit]; simp only [List.length_append]
    have hpl : (p ++ T x1).length = p.length + (T x1).length := List.length_append
    have hrd : rdOf ByteArray.empty x1 (done.length : Nat) = t := by rw [h]; exact rdOf_mid done rest t
    have hex : (bstr (p ++ T x1)).extract (((p ++ T done).length : Nat) : Int).toNat (bstr (p ++ T x1)).size = bstr (enc t.data.toList.length ++ t.data.toList ++ T rest) := by rw [hsplit]; exact extract_tail _ _
    have htx := texts_f (bstr (enc t.data.toList.length ++ t.data.toList ++ T rest)) 200 (by rw [bstr_size]; omega) (by omega) (by omega)
    have hm : mx 200 0 = 200 := by decide
    rw [texts_text t.data.toList (T rest) 200 (by rw [ba_size]; omega) (by rw [hm, ba_size]; omega)] at htx
    have hw1 : wrap64 ((((p ++ T done).length : Nat) : Int) + (((enc t.data.toList.length).length : Int) + (t.data.toList.length : Int))) = (((p ++ T (done ++ [t])).length : Nat) : Int) := by
      have e10 := enc_length10 (n := t.data.toList.length) (by rw [ba_size]; omega)
      have e11 := ba_size t
      rw [T_snoc, wrap64_of (by omega) (by omega)]
      simp only [List.length_append, ba_size]
      omega
    have hw2 : wrap64 (((done.length : Nat) : Int) + 1) = (((done ++ [t]).length : Nat) : Int) := by
      rw [wrap64_of (by omega) (by omega)]; simp
    have hbt : (bstr t.data.toList).toList = t.toList := by rw [toList_eq, toList_eq]; rfl
    have hnext := ih (done ++ [t]) k (by rw [h]; simp) ht (by simp only [List.length_cons] at hk; omega)
    simp only [vedettelaw1_NumRows.l3]
    rw [if_pos (by omega), if_pos (by omega), if_pos (by rw [bstr_size]; omega), hex, htx, hrd]
    simp only [Option.bind_some, if_true]
    rw [if_pos (by omega), if_pos hbt, hw1, hw2]
    exact hnext

theorem rows_l2 (x0 : List Int) (x1 : List ByteArray) (hx0 : x0.length ≤ 20) (hx : x1.length ≤ 20) (hn : ∀ x ∈ x0, 0 ≤ x ∧ x < 18446744073709551616) (ht : ∀ t ∈ x1, t.size ≤ 200) : ∀ (rest done : List Int) (k : Nat), x0 = done ++ rest → rest.length + x1.length + 1 < k →
    vedettelaw1_NumRows.l2 k x0 x1 (bstr (E x0 ++ T x1)) ((E done).length : Nat) (done.length : Nat) = some true := by
  intro rest
  have hE := E_le x0 hn
  have hT := T_le x1 ht
  induction rest with
  | nil =>
    intro done k h hk
    obtain ⟨k, rfl⟩ : ∃ m, k = m + 1 := ⟨k - 1, by omega⟩
    have e : done = x0 := by rw [h, List.append_nil]
    subst e
    have := rows_l3 (E done) (by omega) x1 hx x1 [] k rfl ht (by simp only [List.length_nil] at hk; omega)
    simp only [T, List.append_nil, List.length_nil] at this
    simp only [vedettelaw1_NumRows.l2]
    rw [if_neg (by omega)]
    exact this
  | cons x rest ih =>
    intro done k h hk
    obtain ⟨k, rfl⟩ : ∃ m, k = m + 1 := ⟨k - 1, by omega⟩
    have hxr := hn x (by rw [h]; simp)
    have hlen : done.length + rest.length + 1 = x0.length := by rw [h]; simp; omega
    have hsplit : E x0 ++ T x1 = E done ++ (enc x.toNat ++ (E rest ++ T x1)) := by
      rw [h, E_append]
      simp only [E, List.append_assoc]
    have hl : (E x0 ++ T x1).length = (E done).length + (enc x.toNat ++ (E rest ++ T x1)).length := by rw [hsplit]; simp only [List.length_append]
    have hpl : (E x0 ++ T x1).length = (E x0).length + (T x1).length := List.length_append
    have hrd : rd x0 (done.length : Nat) = x := by rw [h]; exact rd_mid done rest x
    have hex : (bstr (E x0 ++ T x1)).extract (((E done).length : Nat) : Int).toNat (bstr (E x0 ++ T x1)).size = bstr (enc x.toNat ++ (E rest ++ T x1)) := by rw [hsplit]; exact extract_tail _ _
    have hg := get_f (bstr (enc x.toNat ++ (E rest ++ T x1))) (by rw [bstr_size]; omega)
    rw [bstr_list, dec_enc0 x.toNat _ (by omega)] at hg
    have e10 := enc_length10 (n := x.toNat) (by omega)
    have hw1 : wrap64 ((((E done).length : Nat) : Int) + ((enc x.toNat).length : Int)) = (((E (done ++ [x])).length : Nat) : Int) := by
      rw [E_snoc, wrap64_of (by omega) (by omega)]
      simp only [List.length_append]
      omega
    have hw2 : wrap64 (((done.length : Nat) : Int) + 1) = (((done ++ [x]).length : Nat) : Int) := by
      rw [wrap64_of (by omega) (by omega)]; simp
    have hnext := ih (done ++ [x]) k (by rw [h]; simp) (by simp only [List.length_cons] at hk; omega)
    simp only [vedettelaw1_NumRows.l2]
    rw [if_pos (by omega), if_pos (by omega), if_pos (by rw [bstr_size]; omega), hex, hg, hrd]
    simp only [Option.bind_some, if_true]
    rw [if_pos (by omega), if_pos (by omega), hw1, hw2]
    exact hnext

theorem rows_l1 (x0 : List Int) (x1 : List ByteArray) (hx0 : x0.length ≤ 20) (hx : x1.length ≤ 20) (hn : ∀ x ∈ x0, 0 ≤ x ∧ x < 18446744073709551616) : ∀ (rest done : List ByteArray) (k : Nat), x1 = done ++ rest → (∀ t ∈ done, t.size ≤ 200) → rest.length + x0.length + x1.length + 12 < k →
    vedettelaw1_NumRows.l1 k x0 x1 (bstr (E x0 ++ T done)) (done.length : Nat) = some true := by
  intro rest
  have hE := E_le x0 hn
  induction rest with
  | nil =>
    intro done k h ht hk
    obtain ⟨k, rfl⟩ : ∃ m, k = m + 1 := ⟨k - 1, by omega⟩
    have e : done = x1 := by rw [h, List.append_nil]
    subst e
    have := rows_l2 x0 done hx0 hx hn ht x0 [] k rfl (by simp only [List.length_nil] at hk; omega)
    simp only [vedettelaw1_NumRows.l1]
    rw [if_neg (by omega)]
    exact this
  | cons t rest ih =>
    intro done k h ht hk
    obtain ⟨k, rfl⟩ : ∃ m, k = m + 1 := ⟨k - 1, by omega⟩
    have hlen : done.length + rest.length + 1 = x1.length := by rw [h]; simp; omega
    have hrd : rdOf ByteArray.empty x1 (done.length : Nat) = t := by rw [h]; exact rdOf_mid done rest t
    simp only [vedettelaw1_NumRows.l1]
    rw [if_pos (by omega), if_pos (by omega), hrd]
    by_cases h200 : (t.size : Int) > 200
    · rw [if_pos h200]
    · rw [if_neg h200]
      have hT := T_le done ht
      have hw2 : wrap64 (((done.length : Nat) : Int) + 1) = (((done ++ [t]).length : Nat) : Int) := by
        rw [wrap64_of (by omega) (by omega)]; simp
      have e10 := enc_length10 (n := t.size) (by omega)
      have hnext := ih (done ++ [t]) k (by rw [h]; simp) (by
        intro y hy
        rcases List.mem_append.1 hy with hy | hy
        · exact ht y hy
        · have : y = t := by simpa using hy
          rw [this]; omega) (by simp only [List.length_cons] at hk; omega)
      have happ : bstr (E x0 ++ T done) ++ bstr (enc t.size ++ t.data.toList) = bstr (E x0 ++ T (done ++ [t])) := ba_ext (by rw [ba_append, bstr_list, bstr_list, bstr_list, T_snoc, List.append_assoc])
      rw [text_f k t (by omega) (by omega)]
      simp only [Option.bind_some]
      rw [if_pos (by rw [bstr_size, bstr_size]; simp only [List.length_append, ba_size]; omega), happ, hw2]
      exact hnext

theorem rows_l0 (x0 : List Int) (x1 : List ByteArray) (hx0 : x0.length ≤ 20) (hx : x1.length ≤ 20) (hn : ∀ x ∈ x0, 0 ≤ x ∧ x < 18446744073709551616) : ∀ (rest done : List Int) (k : Nat), x0 = done ++ rest → rest.length + x0.length + 2 * x1.length + 14 < k →
    vedettelaw1_NumRows.l0 k x0 x1 (bstr (E done)) (done.length : Nat) = some true := by
  intro rest
  induction rest with
  | nil =>
    intro done k h hk
    obtain ⟨k, rfl⟩ : ∃ m, k = m + 1 := ⟨k - 1, by omega⟩
    have e : done = x0 := by rw [h, List.append_nil]
    subst e
    have := rows_l1 done x1 hx0 hx hn x1 [] k rfl (by simp) (by simp only [List.length_nil] at hk; omega)
    simp only [T, List.append_nil, List.length_nil] at this
    simp only [vedettelaw1_NumRows.l0]
    rw [if_neg (by omega)]
    exact this
  | cons x rest ih =>
    intro done k h hk
    obtain ⟨k, rfl⟩ : ∃ m, k = m + 1 := ⟨k - 1, by omega⟩
    have hxr := hn x (by rw [h]; simp)
    have hlen : done.length + rest.length + 1 = x0.length := by rw [h]; simp; omega
    have hrd : rd x0 (done.length : Nat) = x := by rw [h]; exact rd_mid done rest x
    have hE := E_le done (fun y hy => hn y (by rw [h]; exact List.mem_append_left _ hy))
    have e10 := enc_length10 (n := x.toNat) (by omega)
    have hw2 : wrap64 (((done.length : Nat) : Int) + 1) = (((done ++ [x]).length : Nat) : Int) := by
      rw [wrap64_of (by omega) (by omega)]; simp
    have hnext := ih (done ++ [x]) k (by rw [h]; simp) (by simp only [List.length_cons] at hk; omega)
    have happ : bstr (E done) ++ bstr (enc x.toNat) = bstr (E (done ++ [x])) := ba_ext (by rw [ba_append, bstr_list, bstr_list, bstr_list, E_snoc])
    have hp := put_f k x.toNat (by omega) (by omega)
    rw [show ((x.toNat : Nat) : Int) = x by omega] at hp
    simp only [vedettelaw1_NumRows.l0]
    rw [if_pos (by omega), if_pos (by omega), hrd, hp]
    simp only [Option.bind_some]
    rw [if_pos (by rw [bstr_size, bstr_size]; omega), happ, hw2]
    exact hnext

theorem NumRows : vedettelaw1_NumRows.Pure := by
  intro x0 x1 _ _ hw _ _ _
  refine ⟨200, ?_⟩
  unfold vedettelaw1_NumRows.f
  rw [known_f 200 (by omega)]
  simp only [Option.bind_some, if_true]
  have jt : vedettelaw1_NumRows.j0 200 x0 x1 true = some true := by
    simp only [vedettelaw1_NumRows.j0]
    rw [if_pos trivial]
  by_cases h1 : (x0.length : Int) > 20
  · rw [if_pos h1, jt]
  · rw [if_neg h1]
    by_cases h2 : (x1.length : Int) > 20
    · rw [decide_eq_true h2, jt]
    · rw [decide_eq_false h2]
      have := rows_l0 x0 x1 (by omega) (by omega) (fun x hx => wf_u64 (hw x hx)) x0 [] 199 rfl (by omega)
      simp only [vedettelaw1_NumRows.j0]
      rw [if_neg (by simp)]
      exact this
end Go.Proofs.Ytgedcomfbkgkoaa.Pure
