/- What sum's printed functions compute, told by plain lists. -/
import Derived.Test.YtbaefdodchgbkaaNumB
import Derived.Test.YtbaefdodchgbkaaSumA
namespace Go.Proofs.Ytbaefdodchgbkaa.Num
open Go.RowKit Go.Proofs.YtbaefdodchgbkaaW.PrintWords Go.Proofs.YtbaefdodchgbkaaW.PrintMore Go.Proofs.Ytbaefdodchgbkaa.Print

def crc (l : List UInt8) : Nat := ngo (l.map UInt8.toNat) 4294967295 ^^^ 4294967295
def tl (c : Nat) : List UInt8 := [UInt8.ofNat (c % 256), UInt8.ofNat (c / 256 % 256), UInt8.ofNat (c / 65536 % 256), UInt8.ofNat (c / 16777216 % 256)]
def frame (l : List UInt8) : List UInt8 := enc l.length ++ l ++ tl (crc l)

theorem nats_lt (l : List UInt8) : ∀ c ∈ l.map UInt8.toNat, c < 256 := by
  intro c hc
  obtain ⟨u, _, rfl⟩ := List.mem_map.1 hc
  exact u.toNat_lt
theorem crc_lt (l : List UInt8) : crc l < 4294967296 := xor_lt (ngo_lt _ _ (nats_lt l) (by omega)) (by omega)
theorem tl_length (c : Nat) : (tl c).length = 4 := rfl
theorem frame_length (l : List UInt8) : (frame l).length = (enc l.length).length + l.length + 4 := by simp [frame, tl_length]; omega
theorem tl_inj {c d : Nat} (hc : c < 4294967296) (hd : d < 4294967296) (h : tl c = tl d) : c = d := by
  simp only [tl, List.cons.injEq, and_true] at h
  obtain ⟨h1, h2, h3, h4⟩ := h
  have e : ∀ {a b : Nat}, a < 256 → b < 256 → UInt8.ofNat a = UInt8.ofNat b → a = b := fun ha hb h => by
    have := congrArg UInt8.toNat h
    rwa [ofNat_toNat ha, ofNat_toNat hb] at this
  have h1 := e (by omega) (by omega) h1
  have h2 := e (by omega) (by omega) h2
  have h3 := e (by omega) (by omega) h3
  have h4 := e (by omega) (by omega) h4
  omega

theorem bit_nat (x : Nat) (h : x < 4294967296) : sum_Of.bit (x : Int) = (nbit x : Nat) := by
  unfold sum_Of.bit nbit
  have h1 : Go.bits .and .u32 (x : Int) 1 = ((x % 2 : Nat) : Int) := by
    rw [show (1 : Int) = ((1 : Nat) : Int) from rfl, u32_and_nat _ _ h (by omega), show (1 : Nat) = 2 ^ 1 - 1 from rfl, Nat.and_two_pow_sub_one_eq_mod]
  have h2 : ((x : Int) / 2) = ((x / 2 : Nat) : Int) := by omega
  have h3 : Go.bits .xor .u32 ((x / 2 : Nat) : Int) 3988292384 = ((x / 2 ^^^ 3988292384 : Nat) : Int) := u32_xor_nat (x / 2) 3988292384 (by omega) (by decide)
  rw [h1, h2, h3]
  by_cases hx : x % 2 = 1
  · rw [if_pos hx, if_pos (by omega)]
  · rw [if_neg hx, if_neg (by omega), Nat.xor_zero]
theorem bits_nat : ∀ (n x : Nat), x < 4294967296 → sum_Of.bits n (x : Int) = (nbits n x : Nat)
  | 0, _, _ => rfl
  | n + 1, x, h => by simp only [sum_Of.bits, nbits]; rw [bits_nat n x h, bit_nat _ (nbits_lt n h)]
theorem byte_nat (x c : Nat) (hx : x < 4294967296) (hc : c < 256) : sum_Of.byte (x : Int) (c : Int) = (nbyte x c : Nat) := by
  unfold sum_Of.byte nbyte
  rw [u32_xor_nat _ _ hx (by omega)]
  exact bits_nat 8 _ (xor_lt hx (by omega))
theorem go_nat : ∀ (l : List Nat) (x : Nat), x < 4294967296 → (∀ c ∈ l, c < 256) → sum_Of.go (l.map fun c : Nat => (c : Int)) (x : Int) = (ngo l x : Nat)
  | [], _, _, _ => rfl
  | c :: l, x, hx, hl => by
    have hc := hl c List.mem_cons_self
    show sum_Of.go (l.map fun c : Nat => (c : Int)) (sum_Of.byte (x : Int) (c : Int)) = _
    rw [byte_nat x c hx hc]
    exact go_nat l (nbyte x c) (nbyte_lt hx hc) (fun d hd => hl d (List.mem_cons_of_mem _ hd))

theorem of_f (s : ByteArray) (h : s.size ≤ 9223372036854775807) : sum_Of.f s = some ((crc s.data.toList : Nat) : Int) := by
  unfold sum_Of.f
  rw [if_pos h]
  have e : bytesOf s = (s.data.toList.map UInt8.toNat).map fun c : Nat => (c : Int) := by rw [List.map_map]; rfl
  rw [e, show (4294967295 : Int) = ((4294967295 : Nat) : Int) from rfl, go_nat _ 4294967295 (by omega) (nats_lt _), u32_xor_nat _ _ (ngo_lt _ _ (nats_lt _) (by omega)) (by omega)]
  rfl

theorem told_list (c : Nat) : strOfNums [(c : Int) % 256, (c : Int) / 256 % 256, (c : Int) / 65536 % 256, (c : Int) / 16777216 % 256] = bstr (tl c) := by
  rw [strOfNums_eq]
  have e1 : ((c : Int) % 256).toNat = c % 256 := by omega
  have e2 : ((c : Int) / 256 % 256).toNat = c / 256 % 256 := by omega
  have e3 : ((c : Int) / 65536 % 256).toNat = c / 65536 % 256 := by omega
  have e4 : ((c : Int) / 16777216 % 256).toNat = c / 16777216 % 256 := by omega
  simp only [List.map_cons, List.map_nil, e1, e2, e3, e4]
  rfl
theorem told_f (c : Nat) : sum_told.f (c : Int) = some (bstr (tl c)) := by
  unfold sum_told.f
  rw [told_list]

theorem wrap_f (k : Nat) (s : ByteArray) (hk : 10 ≤ k) (hs : s.size ≤ 140737488355328) : sum_Wrap.f k s = some (bstr (frame s.data.toList)) := by
  unfold sum_Wrap.f
  have hl := enc_length10 (n := s.size) (by omega)
  have hz := ba_size s
  rw [text_f k s hk hs, of_f s (by omega)]
  simp only [Option.bind_some]
  rw [told_f]
  simp only [Option.bind_some]
  rw [if_pos (by rw [bstr_size, bstr_size, tl_length, List.length_append]; omega)]
  exact congrArg some (ba_ext (by rw [ba_append, bstr_list, bstr_list, bstr_list, ← ba_size]; rfl))

/-- What Open reads. -/
def opn (s : ByteArray) : ByteArray × Int × Int :=
  let t := texts s 40000
  if t.2.2 = 0 then
    (if (s.size : Int) - t.2.1 < 4 then (⟨#[]⟩, 0, 10)
     else if (s.data.toList.drop t.2.1.toNat).take 4 = tl (crc t.1.data.toList) then (t.1, t.2.1 + 4, 0)
     else (⟨#[]⟩, 0, 12))
  else (⟨#[]⟩, 0, t.2.2)

theorem texts_range (s : ByteArray) (most : Int) : ((texts s most).2.2 = 0 ∧ 1 ≤ (texts s most).2.1 ∧ (texts s most).2.1 ≤ s.size ∧ (texts s most).1.size ≤ s.size ∧ ((texts s most).1.size : Int) ≤ mx most 0) ∨ ((texts s most).2.2 ≠ 0) := by
  unfold texts
  obtain ⟨u, n, e, hd⟩ : ∃ u n e, dec s.data.toList 0 0 = (u, n, e) := ⟨_, _, _, rfl⟩
  have hr := dec0_range hd
  rw [ba_size] at hr
  rw [hd]
  dsimp only
  by_cases he : e = 0
  · rw [if_pos he]
    by_cases h1 : u > mx most 0
    · rw [if_pos h1]; exact .inr (by decide)
    · rw [if_neg h1]
      by_cases h2 : u > (s.size : Int) - n
      · rw [if_pos h2]; exact .inr (by decide)
      · rw [if_neg h2]
        have hz : (s.extract n.toNat (n + u).toNat).size = u.toNat := by
          rw [← ba_size, Lib.extract_data, List.length_take, List.length_drop, ba_size]
          omega
        refine .inl ⟨rfl, ?_, ?_, ?_, ?_⟩
        · dsimp only; omega
        · dsimp only; omega
        · dsimp only; rw [hz]; omega
        · dsimp only; rw [hz]; omega
  · rw [if_neg he]
    exact .inr he

theorem open_f (s : ByteArray) (hs : s.size ≤ 140737488355328) : sum_Open.f s = some (opn s) := by
  unfold sum_Open.f opn
  rw [texts_f s 40000 hs (by omega) (by omega)]
  simp only [Option.bind_some]
  have hr := texts_range s 40000
  obtain ⟨b, n, e, ht⟩ : ∃ b n e, texts s 40000 = (b, n, e) := ⟨_, _, _, rfl⟩
  rw [ht] at hr ⊢
  dsimp only at hr ⊢
  by_cases he : e = 0
  · rw [if_pos he, if_pos he]
    rcases hr with ⟨_, h1, h2, h3, h4⟩ | h
    · have ew : wrap64 ((s.size : Int) - n) = (s.size : Int) - n := wrap64_of (by omega) (by omega)
      have ew4 : wrap64 (n + 4) = n + 4 := wrap64_of (by omega) (by omega)
      rw [ew, ew4]
      by_cases h5 : (s.size : Int) - n < 4
      · rw [if_pos h5, if_pos h5]
      · rw [if_neg h5, if_neg h5, if_pos (by omega), if_pos (by omega), if_pos (by omega), of_f b (by omega)]
        simp only [Option.bind_some]
        rw [told_f]
        simp only [Option.bind_some]
        have e1 : (s.extract n.toNat (n + 4).toNat).toList = (s.data.toList.drop n.toNat).take 4 := by
          rw [ByteArray.toList_eq, Lib.extract_data]
          congr 1
          omega
        have e2 : (bstr (tl (crc b.data.toList))).toList = tl (crc b.data.toList) := by rw [ByteArray.toList_eq, bstr_list]
        rw [e1, e2]
        by_cases h6 : (s.data.toList.drop n.toNat).take 4 = tl (crc b.data.toList)
        · rw [if_pos h6, if_pos h6]
        · rw [if_neg h6, if_neg h6]
    · exact absurd he h
  · rw [if_neg he, if_neg he]

/-- Any frame-like bytes: a length's bytes, so many bytes, four bytes, whatever stands behind. -/
theorem opn_parts (l c tail : List UInt8) (hl : l.length ≤ 40000) (hc : c.length = 4) :
    opn (bstr (enc l.length ++ l ++ c ++ tail)) = if c = tl (crc l) then (bstr l, ((enc l.length ++ l ++ c).length : Int), 0) else (⟨#[]⟩, 0, 12) := by
  unfold opn
  have hm : mx 40000 0 = 40000 := by decide
  have ht := texts_text l (c ++ tail) 40000 (by omega) (by rw [hm]; omega)
  rw [List.append_assoc (enc l.length ++ l) c tail, ht]
  dsimp only
  rw [if_pos rfl, if_neg (by rw [bstr_size]; simp only [List.length_append]; omega), bstr_list, bstr_list]
  have e : (((enc l.length).length : Int) + (l.length : Int)).toNat = (enc l.length ++ l).length := by rw [List.length_append]; omega
  rw [e, List.drop_left]
  have e2 : (c ++ tail).take 4 = c := by rw [← hc, List.take_left]
  rw [e2]
  by_cases h : c = tl (crc l)
  · rw [if_pos h, if_pos h]
    refine Prod.ext rfl (Prod.ext ?_ rfl)
    simp only [List.length_append]
    omega
  · rw [if_neg h, if_neg h]
theorem opn_frame (l tail : List UInt8) (hl : l.length ≤ 40000) : opn (bstr (frame l ++ tail)) = (bstr l, ((frame l).length : Int), 0) := by
  have := opn_parts l (tl (crc l)) tail hl (tl_length _)
  rw [if_pos rfl] at this
  exact this
end Go.Proofs.Ytbaefdodchgbkaa.Num
