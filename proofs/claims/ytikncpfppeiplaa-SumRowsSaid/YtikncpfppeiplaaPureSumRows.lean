/- SumRows: frames one behind the other are opened in their order; the rest is left. For every input. -/
import Derived.Test.YtikncpfppeiplaaWalkSumRows
import Derived.Test.YtikncpfppeiplaaSumK
import Derived.Test.YtikncpfppeiplaaNumE
namespace Go.Proofs.Ytikncpfppeiplaa.Pure
open Go.RowKit Go.Proofs.Ytikncpfppeiplaa.Print Go.Proofs.YtikncpfppeiplaaW.PrintWords Go.Proofs.YtikncpfppeiplaaW.PrintLast Go.Proofs.YtikncpfppeiplaaW.PrintMore Go.Proofs.Ytikncpfppeiplaa.Num

def Fr : List ByteArray → List UInt8
  | [] => []
  | t :: r => frame t.data.toList ++ Fr r
theorem Fr_append : ∀ a b, Fr (a ++ b) = Fr a ++ Fr b
  | [], _ => rfl
  | x :: r, b => by simp only [List.cons_append, Fr, Fr_append r b, List.append_assoc]
theorem Fr_snoc (a : List ByteArray) (t : ByteArray) : Fr (a ++ [t]) = Fr a ++ frame t.data.toList := by rw [Fr_append]; simp [Fr]
theorem frame_le (t : ByteArray) (h : t.size ≤ 200) : (frame t.data.toList).length ≤ 214 := by
  have h3 := enc_length10 (n := t.data.toList.length) (by rw [ba_size]; omega)
  rw [frame_length, ba_size]
  rw [ba_size] at h3
  omega
theorem Fr_le : ∀ (a : List ByteArray), (∀ t ∈ a, t.size ≤ 200) → (Fr a).length ≤ 214 * a.length
  | [], _ => by simp [Fr]
  | t :: r, h => by
    have h1 := Fr_le r (fun y hy => h y (List.mem_cons_of_mem _ hy))
    have h2 := frame_le t (h t List.mem_cons_self)
    simp only [Fr, List.length_append, List.length_cons]
    omega
theorem rdOf_mid (done rest : List ByteArray) (x : ByteArray) : rdOf ByteArray.empty (done ++ x :: rest) done.length = x := by
  unfold rdOf
  simp
theorem extract_tail (p q : List UInt8) : (bstr (p ++ q)).extract ((p.length : Nat) : Int).toNat (bstr (p ++ q)).size = bstr q := by
  refine ba_ext ?_
  rw [Lib.extract_to_end, bstr_list, bstr_list, Int.toNat_natCast, List.drop_left]

theorem rows_l1 (x0 : List ByteArray) (x1 : ByteArray) (hx : x0.length ≤ 12) (ht : ∀ t ∈ x0, t.size ≤ 200) (h1 : x1.size ≤ 50) : ∀ (rest done : List ByteArray) (k : Nat), x0 = done ++ rest → rest.length < k →
    vedettelaw2_SumRows.l1 k x0 x1 (bstr (Fr x0 ++ x1.data.toList)) ((Fr done).length : Nat) (done.length : Nat) = some true := by
  intro rest
  have hF := Fr_le x0 ht
  have h1s := ba_size x1
  induction rest with
  | nil =>
    intro done k h hk
    obtain ⟨k, rfl⟩ : ∃ m, k = m + 1 := ⟨k - 1, by omega⟩
    have e : done = x0 := by rw [h, List.append_nil]
    subst e
    simp only [vedettelaw2_SumRows.l1]
    rw [if_neg (by omega), if_pos (by omega), if_pos (by rw [bstr_size, List.length_append]; omega), extract_tail, toList_eq, toList_eq, bstr_list]
    simp
  | cons t rest ih =>
    intro done k h hk
    obtain ⟨k, rfl⟩ : ∃ m, k = m + 1 := ⟨k - 1, by omega⟩
    have hts : t.size ≤ 200 := ht t (by rw [h]; simp)
    have hlen : done.length + rest.length + 1 = x0.length := by rw [h]; simp; omega
    have hsplit : Fr x0 ++ x1.data.toList = Fr done ++ (frame t.data.toList ++ (Fr rest ++ x1.data.toList)) := by
      rw [h, Fr_append]
      simp only [Fr, List.append_assoc]
    have hl : (Fr x0 ++ x1.data.toList).length = (Fr done).length + (frame t.data.toList ++ (Fr rest ++ x1.data.toList)).length := by rw [hsplit]; simp only [List.length_append]
    have hpl : (Fr x0 ++ x1.data.toList).length = (Fr x0).length + x1.data.toList.length := List.length_append
    have hrd : rdOf ByteArray.empty x0 (done.length : Nat) = t := by rw [h]; exact rdOf_mid done rest t
    have hex : (bstr (Fr x0 ++ x1.data.toList)).extract (((Fr done).length : Nat) : Int).toNat (bstr (Fr x0 ++ x1.data.toList)).size = bstr (frame t.data.toList ++ (Fr rest ++ x1.data.toList)) := by rw [hsplit]; exact extract_tail _ _
    have hop := open_f (bstr (frame t.data.toList ++ (Fr rest ++ x1.data.toList))) (by rw [bstr_size]; omega)
    rw [opn_frame t.data.toList _ (by rw [ba_size]; omega)] at hop
    have hfl := frame_le t hts
    have hw1 : wrap64 ((((Fr done).length : Nat) : Int) + ((frame t.data.toList).length : Int)) = (((Fr (done ++ [t])).length : Nat) : Int) := by
      rw [Fr_snoc, wrap64_of (by omega) (by omega), List.length_append]
      omega
    have hw2 : wrap64 (((done.length : Nat) : Int) + 1) = (((done ++ [t]).length : Nat) : Int) := by
      rw [wrap64_of (by omega) (by omega)]; simp
    have hbt : (bstr t.data.toList).toList = t.toList := by rw [toList_eq, toList_eq]; rfl
    have hnext := ih (done ++ [t]) k (by rw [h]; simp) (by simp only [List.length_cons] at hk; omega)
    simp only [vedettelaw2_SumRows.l1]
    rw [if_pos (by omega), if_pos (by omega), if_pos (by rw [bstr_size]; omega), hex, hop, hrd]
    simp only [Option.bind_some, if_true]
    rw [if_pos (by omega), if_pos hbt, hw1, hw2]
    exact hnext

theorem rows_l0 (x0 : List ByteArray) (x1 : ByteArray) (hx : x0.length ≤ 12) (h1 : x1.size ≤ 50) : ∀ (rest done : List ByteArray) (k : Nat), x0 = done ++ rest → (∀ t ∈ done, t.size ≤ 200) → rest.length + x0.length + 12 < k →
    vedettelaw2_SumRows.l0 k x0 x1 (bstr (Fr done)) (done.length : Nat) = some true := by
  intro rest
  have h1s := ba_size x1
  induction rest with
  | nil =>
    intro done k h ht hk
    obtain ⟨k, rfl⟩ : ∃ m, k = m + 1 := ⟨k - 1, by omega⟩
    have e : done = x0 := by rw [h, List.append_nil]
    subst e
    have hF := Fr_le done ht
    have happ : bstr (Fr done) ++ x1 = bstr (Fr done ++ x1.data.toList) := ba_ext (by rw [ba_append]; rfl)
    have := rows_l1 done x1 hx ht h1 done [] k rfl (by simp only [List.length_nil] at hk; omega)
    simp only [Fr, List.length_nil] at this
    simp only [vedettelaw2_SumRows.l0]
    rw [if_neg (by omega), if_pos (by rw [bstr_size]; omega), happ]
    exact this
  | cons t rest ih =>
    intro done k h ht hk
    obtain ⟨k, rfl⟩ : ∃ m, k = m + 1 := ⟨k - 1, by omega⟩
    have hlen : done.length + rest.length + 1 = x0.length := by rw [h]; simp; omega
    have hrd : rdOf ByteArray.empty x0 (done.length : Nat) = t := by rw [h]; exact rdOf_mid done rest t
    simp only [vedettelaw2_SumRows.l0]
    rw [if_pos (by omega), if_pos (by omega), hrd]
    by_cases h200 : (t.size : Int) > 200
    · rw [if_pos h200]
    · rw [if_neg h200]
      have hF := Fr_le done ht
      have hfl := frame_le t (by omega)
      have hw2 : wrap64 (((done.length : Nat) : Int) + 1) = (((done ++ [t]).length : Nat) : Int) := by
        rw [wrap64_of (by omega) (by omega)]; simp
      have hnext := ih (done ++ [t]) k (by rw [h]; simp) (by
        intro y hy
        rcases List.mem_append.1 hy with hy | hy
        · exact ht y hy
        · have : y = t := by simpa using hy
          rw [this]; omega) (by simp only [List.length_cons] at hk; omega)
      have happ : bstr (Fr done) ++ bstr (frame t.data.toList) = bstr (Fr (done ++ [t])) := ba_ext (by rw [ba_append, bstr_list, bstr_list, bstr_list, Fr_snoc])
      rw [wrap_f k t (by omega) (by omega)]
      simp only [Option.bind_some]
      rw [if_pos (by rw [bstr_size, bstr_size]; omega), happ, hw2]
      exact hnext

theorem SumRows : vedettelaw2_SumRows.Pure := by
  intro x0 x1 _ _ _ _
  refine ⟨200, ?_⟩
  unfold vedettelaw2_SumRows.f
  rw [sum_known_f 200 (by omega)]
  simp only [Option.bind_some, if_true]
  have jt : vedettelaw2_SumRows.j0 200 x0 x1 true = some true := by
    simp only [vedettelaw2_SumRows.j0]
    rw [if_pos trivial]
  by_cases h1 : (x0.length : Int) > 12
  · rw [if_pos h1, jt]
  · rw [if_neg h1]
    by_cases h2 : (x1.size : Int) > 50
    · rw [decide_eq_true h2, jt]
    · rw [decide_eq_false h2]
      have := rows_l0 x0 x1 (by omega) (by omega) x0 [] 199 rfl (by simp) (by omega)
      simp only [vedettelaw2_SumRows.j0]
      rw [if_neg (by simp)]
      exact this
end Go.Proofs.Ytikncpfppeiplaa.Pure
