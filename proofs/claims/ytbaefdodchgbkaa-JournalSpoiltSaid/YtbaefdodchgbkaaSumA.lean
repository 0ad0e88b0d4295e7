/- Check sums, in plain numbers: a bit's step is linear, and only nought comes to nought. -/
import Derived.Test.YtbaefdodchgbkaaNumA
namespace Go.Proofs.Ytbaefdodchgbkaa.Num
open Go.Proofs.YtbaefdodchgbkaaW.PrintWords Go.Proofs.YtbaefdodchgbkaaW.PrintMore

def nbit (x : Nat) : Nat := (x / 2) ^^^ (if x % 2 = 1 then 3988292384 else 0)
def nbits : Nat → Nat → Nat
  | 0, x => x
  | n + 1, x => nbit (nbits n x)
def nbyte (x c : Nat) : Nat := nbits 8 (x ^^^ c)
def ngo (l : List Nat) (x : Nat) : Nat := l.foldl nbyte x

theorem xor_lt {a b : Nat} (ha : a < 4294967296) (hb : b < 4294967296) : a ^^^ b < 4294967296 := Nat.xor_lt_two_pow (n := 32) ha hb
theorem nbit_lt {x : Nat} (h : x < 4294967296) : nbit x < 4294967296 := by
  unfold nbit
  refine xor_lt (by omega) ?_
  split <;> omega
theorem nbits_lt : ∀ (n : Nat) {x : Nat}, x < 4294967296 → nbits n x < 4294967296
  | 0, _, h => h
  | n + 1, _, h => nbit_lt (nbits_lt n h)
theorem nbyte_lt {x c : Nat} (hx : x < 4294967296) (hc : c < 256) : nbyte x c < 4294967296 := nbits_lt 8 (xor_lt hx (by omega))
theorem ngo_lt : ∀ (l : List Nat) (x : Nat), (∀ c ∈ l, c < 256) → x < 4294967296 → ngo l x < 4294967296
  | [], _, _, h => h
  | c :: l, x, hl, h => ngo_lt l (nbyte x c) (fun d hd => hl d (List.mem_cons_of_mem _ hd)) (nbyte_lt h (hl c List.mem_cons_self))

theorem xor_mod2 (x y : Nat) : (x ^^^ y) % 2 = (x % 2 + y % 2) % 2 := by
  have h := Nat.xor_mod_two_pow (a := x) (b := y) (n := 1)
  rw [Nat.pow_one] at h
  rw [h]
  rcases Nat.mod_two_eq_zero_or_one x with hx | hx <;> rcases Nat.mod_two_eq_zero_or_one y with hy | hy <;> rw [hx, hy] <;> rfl
theorem xor_zero_eq {a b : Nat} (h : a ^^^ b = 0) : a = b := by
  have h1 : (a ^^^ b) ^^^ b = 0 ^^^ b := by rw [h]
  rwa [Nat.xor_assoc, Nat.xor_self, Nat.xor_zero, Nat.zero_xor] at h1
theorem xor_div2 (x y : Nat) : (x ^^^ y) / 2 = x / 2 ^^^ y / 2 := Nat.xor_div_two
theorem xor_swap (a b c d : Nat) : (a ^^^ b) ^^^ (c ^^^ d) = (a ^^^ c) ^^^ (b ^^^ d) := by
  rw [Nat.xor_assoc, Nat.xor_assoc, ← Nat.xor_assoc b, ← Nat.xor_assoc c, Nat.xor_comm b c]
theorem nbit_xor (x y : Nat) : nbit (x ^^^ y) = nbit x ^^^ nbit y := by
  unfold nbit
  rw [xor_div2, xor_mod2, xor_swap]
  congr 1
  rcases Nat.mod_two_eq_zero_or_one x with hx | hx <;> rcases Nat.mod_two_eq_zero_or_one y with hy | hy <;> simp [hx, hy]
theorem nbits_xor : ∀ (n x y : Nat), nbits n (x ^^^ y) = nbits n x ^^^ nbits n y
  | 0, _, _ => rfl
  | n + 1, x, y => by simp only [nbits]; rw [nbits_xor n x y, nbit_xor]
theorem nbit_zero {x : Nat} (h : x < 4294967296) (h0 : nbit x = 0) : x = 0 := by
  unfold nbit at h0
  by_cases hx : x % 2 = 1
  · rw [if_pos hx] at h0
    have := xor_zero_eq h0
    omega
  · rw [if_neg hx, Nat.xor_zero] at h0
    omega
theorem nbits_zero : ∀ (n : Nat) {x : Nat}, x < 4294967296 → nbits n x = 0 → x = 0
  | 0, _, _, h0 => h0
  | n + 1, _, h, h0 => nbits_zero n h (nbit_zero (nbits_lt n h) h0)
theorem nbits_inj (n : Nat) {x y : Nat} (hx : x < 4294967296) (hy : y < 4294967296) (h : nbits n x = nbits n y) : x = y := by
  have h2 : nbits n (x ^^^ y) = 0 := by rw [nbits_xor, h, Nat.xor_self]
  exact xor_zero_eq (nbits_zero n (xor_lt hx hy) h2)
theorem nbyte_inj {x y c : Nat} (hx : x < 4294967296) (hy : y < 4294967296) (hc : c < 256) (h : nbyte x c = nbyte y c) : x = y := by
  have := nbits_inj 8 (xor_lt hx (show c < 4294967296 by omega)) (xor_lt hy (show c < 4294967296 by omega)) h
  have h2 : (x ^^^ c) ^^^ c = (y ^^^ c) ^^^ c := by rw [this]
  rwa [Nat.xor_assoc, Nat.xor_self, Nat.xor_zero, Nat.xor_assoc, Nat.xor_self, Nat.xor_zero] at h2
theorem nbyte_inj2 {x c d : Nat} (hx : x < 4294967296) (hc : c < 256) (hd : d < 256) (h : nbyte x c = nbyte x d) : c = d := by
  have := nbits_inj 8 (xor_lt hx (show c < 4294967296 by omega)) (xor_lt hx (show d < 4294967296 by omega)) h
  have h2 : x ^^^ (x ^^^ c) = x ^^^ (x ^^^ d) := by rw [this]
  rwa [← Nat.xor_assoc, Nat.xor_self, Nat.zero_xor, ← Nat.xor_assoc, Nat.xor_self, Nat.zero_xor] at h2
theorem ngo_inj : ∀ (l : List Nat) {x y : Nat}, (∀ c ∈ l, c < 256) → x < 4294967296 → y < 4294967296 → ngo l x = ngo l y → x = y
  | [], _, _, _, _, _, h => h
  | c :: l, _, _, hl, hx, hy, h =>
    nbyte_inj hx hy (hl c List.mem_cons_self) (ngo_inj l (fun d hd => hl d (List.mem_cons_of_mem _ hd)) (nbyte_lt hx (hl c List.mem_cons_self)) (nbyte_lt hy (hl c List.mem_cons_self)) h)
theorem ngo_append (a b : List Nat) (x : Nat) : ngo (a ++ b) x = ngo b (ngo a x) := List.foldl_append
theorem ngo_cons (c : Nat) (b : List Nat) (x : Nat) : ngo (c :: b) x = ngo b (nbyte x c) := rfl

/-- One byte that is another one is seen. -/
theorem ngo_one {a b : List Nat} {c d x : Nat} (ha : ∀ c ∈ a, c < 256) (hb : ∀ c ∈ b, c < 256) (hc : c < 256) (hd : d < 256) (hx : x < 4294967296) (hne : c ≠ d) : ngo (a ++ c :: b) x ≠ ngo (a ++ d :: b) x := by
  rw [ngo_append, ngo_append, ngo_cons, ngo_cons]
  have hl := ngo_lt a x ha hx
  exact fun h => hne (nbyte_inj2 hl hc hd (ngo_inj b hb (nbyte_lt hl hc) (nbyte_lt hl hd) h))

/-- Bit by bit put together. -/
theorem nbyte_xor3 (x y z a b c : Nat) : nbyte (x ^^^ y ^^^ z) (a ^^^ b ^^^ c) = nbyte x a ^^^ nbyte y b ^^^ nbyte z c := by
  unfold nbyte
  rw [xor_swap, xor_swap x y a b, nbits_xor, nbits_xor]

theorem swap_one : ∀ d : Fin 256, d.val ≠ 0 → nbits 8 d.val ≠ d.val := by decide +kernel
theorem swap_two : ∀ d : Fin 256, d.val ≠ 0 → nbits 8 (nbits 8 d.val) ≠ d.val := by decide +kernel
theorem swap_three : ∀ d : Fin 256, d.val ≠ 0 → nbits 8 (nbits 8 (nbits 8 d.val)) ≠ d.val := by decide +kernel

theorem nbyte_diff (x y c : Nat) : nbyte x c ^^^ nbyte y c = nbits 8 (x ^^^ y) := by
  unfold nbyte
  rw [← nbits_xor, xor_swap, Nat.xor_self, Nat.xor_zero]
theorem nbyte_diff2 (x c d : Nat) : nbyte x c ^^^ nbyte x d = nbits 8 (c ^^^ d) := by
  unfold nbyte
  rw [← nbits_xor, xor_swap, Nat.xor_self, Nat.zero_xor]
theorem ngo_diff : ∀ (l : List Nat) (x y : Nat), ngo l x ^^^ ngo l y = (List.range l.length).foldl (fun z _ => nbits 8 z) (x ^^^ y)
  | [], _, _ => rfl
  | c :: l, x, y => by
    rw [ngo_cons, ngo_cons, ngo_diff l, nbyte_diff, List.length_cons, List.range_succ_eq_map, List.foldl_cons, List.foldl_map]

/-- Two bytes that are unlike, at most three places apart, change their places: that is seen. -/
theorem ngo_swap {a m b : List Nat} {c d x : Nat} (ha : ∀ c ∈ a, c < 256) (hm : ∀ c ∈ m, c < 256) (hb : ∀ c ∈ b, c < 256) (hc : c < 256) (hd : d < 256) (hx : x < 4294967296) (hne : c ≠ d) (h3 : m.length ≤ 2) :
    ngo (a ++ c :: m ++ d :: b) x ≠ ngo (a ++ d :: m ++ c :: b) x := by
  rw [ngo_append, ngo_append, ngo_append, ngo_append, ngo_cons, ngo_cons, ngo_cons, ngo_cons]
  have hl := ngo_lt a x ha hx
  have h1 := nbyte_lt hl hc
  have h2 := nbyte_lt hl hd
  have h1' := ngo_lt m _ hm h1
  have h2' := ngo_lt m _ hm h2
  intro h
  have h := ngo_inj b hb (nbyte_lt h1' hd) (nbyte_lt h2' hc) h
  have h := nbits_inj 8 (xor_lt h1' (show d < 4294967296 by omega)) (xor_lt h2' (show c < 4294967296 by omega)) h
  have hcd : c ^^^ d < 256 := Nat.xor_lt_two_pow (n := 8) hc hd
  have h0 : c ^^^ d ≠ 0 := fun h => hne (xor_zero_eq h)
  have e : ngo m (nbyte (ngo a x) c) ^^^ ngo m (nbyte (ngo a x) d) = c ^^^ d := by
    have : (ngo m (nbyte (ngo a x) c) ^^^ d) ^^^ (ngo m (nbyte (ngo a x) d) ^^^ d) = (ngo m (nbyte (ngo a x) d) ^^^ c) ^^^ (ngo m (nbyte (ngo a x) d) ^^^ d) := by rw [h]
    rwa [xor_swap, Nat.xor_self, Nat.xor_zero, xor_swap (ngo m (nbyte (ngo a x) d)), Nat.xor_self, Nat.zero_xor] at this
  rw [ngo_diff, nbyte_diff2] at e
  rcases m with _ | ⟨m1, _ | ⟨m2, _ | ⟨m3, m4⟩⟩⟩
  · exact swap_one ⟨_, hcd⟩ h0 e
  · exact swap_two ⟨_, hcd⟩ h0 e
  · exact swap_three ⟨_, hcd⟩ h0 e
  · simp at h3
end Go.Proofs.Ytbaefdodchgbkaa.Num
