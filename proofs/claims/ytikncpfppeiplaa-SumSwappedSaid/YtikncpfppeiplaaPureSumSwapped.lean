/- SumSwapped: two bytes that are unlike, at most three places apart, and change their places are seen. For every input. -/
import Derived.Test.YtikncpfppeiplaaWalkSumSwapped
import Derived.Test.YtikncpfppeiplaaSumD
import Derived.Test.YtikncpfppeiplaaSumK
namespace Go.Proofs.Ytikncpfppeiplaa.Pure
open Go.RowKit Go.Proofs.Ytikncpfppeiplaa.Print Go.Proofs.YtikncpfppeiplaaW.PrintWords Go.Proofs.YtikncpfppeiplaaW.PrintLast Go.Proofs.Ytikncpfppeiplaa.Num

theorem split_two (l : List UInt8) (p q : Nat) (hpq : p < q) (hq : q < l.length) :
    ∃ (a m b : List UInt8), l = a ++ l[p] :: m ++ l[q] :: b ∧ a.length = p ∧ m.length = q - p - 1 := by
  refine ⟨l.take p, (l.drop (p + 1)).take (q - p - 1), l.drop (q + 1), ?_, by rw [List.length_take]; omega, by rw [List.length_take, List.length_drop]; omega⟩
  have h1 : l = l.take p ++ l.drop p := (List.take_append_drop p l).symm
  have h2 : l.drop p = l[p] :: l.drop (p + 1) := List.drop_eq_getElem_cons (by omega)
  have h3 : l.drop (p + 1) = (l.drop (p + 1)).take (q - p - 1) ++ (l.drop (p + 1)).drop (q - p - 1) := (List.take_append_drop _ _).symm
  have h4 : (l.drop (p + 1)).drop (q - p - 1) = l.drop q := by rw [List.drop_drop]; congr 1; omega
  have h5 : l.drop q = l[q] :: l.drop (q + 1) := List.drop_eq_getElem_cons hq
  rw [h4, h5] at h3
  calc l = l.take p ++ l.drop p := h1
    _ = l.take p ++ l[p] :: l.drop (p + 1) := by rw [h2]
    _ = l.take p ++ l[p] :: ((l.drop (p + 1)).take (q - p - 1) ++ l[q] :: l.drop (q + 1)) := by rw [← h3]
    _ = _ := by simp

theorem crc_swap (l : List UInt8) (p q : Nat) (hpq : p < q) (hq : q < l.length) (h3 : q ≤ p + 3) (hne : l[p] ≠ l[q]) : crc ((l.set p l[q]).set q l[p]) ≠ crc l := by
  obtain ⟨a, m, b, hl, ha, hm⟩ := split_two l p q hpq hq
  generalize l[p] = c at *
  generalize l[q] = d at *
  subst hl
  have e : ((a ++ c :: m ++ d :: b).set p d).set q c = a ++ d :: m ++ c :: b := by
    rw [List.append_assoc, List.set_append_right _ _ (by omega), ha, Nat.sub_self, List.cons_append, List.set_cons_zero, List.set_append_right _ _ (by omega), ha, show q - p = (q - p - 1) + 1 by omega, List.set_cons_succ, List.set_append_right _ _ (by omega), hm, Nat.sub_self, List.set_cons_zero]
    simp
  rw [e]
  intro h
  have h2 : crc (a ++ d :: m ++ c :: b) ^^^ 4294967295 = crc (a ++ c :: m ++ d :: b) ^^^ 4294967295 := by rw [h]
  unfold crc at h2
  rw [Nat.xor_assoc, Nat.xor_self, Nat.xor_zero, Nat.xor_assoc, Nat.xor_self, Nat.xor_zero] at h2
  simp only [List.map_append, List.map_cons] at h2
  exact ngo_swap (nats_lt a) (nats_lt m) (nats_lt b) d.toNat_lt c.toNat_lt (by omega) (fun hh => hne (UInt8.toNat_inj.1 hh).symm) (by rw [List.length_map]; omega) h2

theorem SumSwapped : vedettelaw2_SumSwapped.Pure := by
  refine ⟨⟨12, sum_known_f 12 (by omega)⟩, ?_⟩
  intro b p q hb hp hq hne h1 h2
  have hpl : p < b.data.toList.length := by rw [ba_size]; exact hp
  have hql : q < b.data.toList.length := by rw [ba_size]; exact hq
  have hgp := bt_get b p hp
  have hgq := bt_get b q hq
  have hz : ∀ (l : List Int), ((l.set p (bt b q)).set q (bt b p)).length = l.length := fun l => by rw [List.length_set, List.length_set]
  have ht : strOfNums (((bytesOf b).set p (bt b q)).set q (bt b p)) = bstr ((b.data.toList.set p b.data.toList[q]).set q b.data.toList[p]) := by
    refine ba_ext ?_
    rw [strOfNums_data, bstr_list, List.map_set, List.map_set]
    have hb0 : (bytesOf b).map (fun n : Int => UInt8.ofNat n.toNat) = b.data.toList := by
      simp only [bytesOf, List.map_map]
      have : ((fun n : Int => UInt8.ofNat n.toNat) ∘ fun b : UInt8 => (b.toNat : Int)) = id := by
        funext b
        simp
      rw [this, List.map_id]
    rw [hb0, hgp, hgq]
    simp
  refine ⟨_, _, _, ht, of_f b (by omega), of_f _ (by rw [bstr_size, List.length_set, List.length_set, ba_size]; omega), ?_⟩
  rw [bstr_list]
  have hne2 : b.data.toList[p] ≠ b.data.toList[q] := fun h => hne (by rw [hgp, hgq, h])
  have key : crc ((b.data.toList.set p b.data.toList[q]).set q b.data.toList[p]) ≠ crc b.data.toList := by
    rcases Nat.lt_or_ge p q with h | h
    · exact crc_swap _ p q h hql h2 hne2
    · have hlt : q < p := by
        rcases Nat.lt_or_ge q p with h' | h'
        · exact h'
        · exact absurd (by have : p = q := by omega
                           subst this; rfl) hne2
      rw [List.set_comm _ _ (by omega)]
      exact crc_swap _ q p hlt hpl h1 (Ne.symm hne2)
  intro h
  exact key (by omega)
end Go.Proofs.Ytikncpfppeiplaa.Pure
