/-
The document's numbers in digits of 16 bits: what is left of one by another.
The document's modulus of layer 7, and what is reduced by it.
Plain law: numbers in words of 32 bits, the lowest first.
-/
import Derived.Deep.LoopGhost
import Derived.Lib.SmallJoins
import Derived.Test.YtilccncddbgpbaaDoorPk16
import Derived.Test.YtilccncddbgpbaaDoorPk28
namespace Go.Proofs.YtilccncddbgpbaaDoor
open Go.RowKit

theorem num_len {l : List Nat} {N : Nat} (h : Can l) (hb : bv l < 65536 ^ N) : l.length ≤ N := by
  rcases Nat.lt_or_ge N l.length with hlt | hge
  · exfalso
    have h1 := h.lower (fun e => by rw [e] at hlt; exact Nat.not_lt_zero _ hlt)
    have h2 : 65536 ^ N ≤ 65536 ^ (l.length - 1) := Nat.pow_le_pow_right (by decide) (by omega)
    omega
  · exact hge
theorem pow_digits (z : Nat) : 2 ^ z < 65536 ^ (z / 16 + 1) := by
  rw [show (65536 : Nat) = 2 ^ 16 from rfl, ← Nat.pow_mul]
  exact Nat.pow_lt_pow_right (by decide) (by omega)
theorem mod_start {la lm : List Nat} (hs : Sm la) (hc : Can lm) (hpos : 0 < bv lm) : bv la < bv lm * 2 ^ ((16 * (la.length : Int) - 16 * lm.length + 16) + 1).toNat := by
  have h1 := bv_lt hs
  have hne : lm ≠ [] := fun e => by rw [e] at hpos; simp at hpos
  have h2 := hc.lower hne
  have hl : 0 < lm.length := by
    rcases Nat.eq_zero_or_pos lm.length with h | h
    · exact absurd (List.length_eq_zero_iff.1 h) hne
    · exact h
  generalize ht : ((16 * (la.length : Int) - 16 * lm.length + 16) + 1).toNat = t
  have h3 : 65536 ^ la.length ≤ 65536 ^ (lm.length - 1) * 2 ^ t := by
    rw [show (65536 : Nat) = 2 ^ 16 from rfl, ← Nat.pow_mul, ← Nat.pow_mul, ← Nat.pow_add]
    exact Nat.pow_le_pow_right (by decide) (by omega)
  have h4 : 65536 ^ (lm.length - 1) * 2 ^ t ≤ bv lm * 2 ^ t := Nat.mul_le_mul_right _ h2
  omega
theorem mod_sub {A M z : Nat} (h : A < M * 2 ^ (z + 1)) (hle : M * 2 ^ z ≤ A) : A - M * 2 ^ z < M * 2 ^ z ∧ (A - M * 2 ^ z) % M = A % M := by
  rw [Nat.pow_succ, ← Nat.mul_assoc] at h
  refine ⟨by omega, ?_⟩
  have e : A = (A - M * 2 ^ z) + M * 2 ^ z := by omega
  conv => rhs; rw [e]
  exact (Nat.add_mul_mod_self_left ..).symm

end Go.Proofs.YtilccncddbgpbaaDoor

namespace Go.Proofs.YtilccncddbgpbaaDoor
open Go.RowKit

/-- a number in decimal digits (bytes), the highest first -/
def dec (l : List Nat) : Nat := l.foldl (fun a d => a * 10 + (d - 48)) 0
def lDigits : List Nat := [50, 55, 55, 52, 50, 51, 49, 55, 55, 55, 55, 51, 55, 50, 51, 53, 51, 53, 51, 53, 56, 53, 49, 57, 51, 55, 55, 57, 48, 56, 56, 51, 54, 52, 56, 52, 57, 51]
def Lq : Nat := 2 ^ 252 + 27742317777372353535851937790883648493
theorem dec_next (l : List Nat) (k : Nat) (h : k < l.length) : dec (l.take (k + 1)) = dec (l.take k) * 10 + (l.getD k 0 - 48) := by
  rw [take_succ_getD _ _ h]; simp [dec, List.foldl_append]
theorem lDigits_ok : ∀ k, k < 38 → 48 ≤ lDigits.getD k 0 ∧ lDigits.getD k 0 ≤ 57 ∧ dec (lDigits.take k) < 65536 ^ 10 := by
  decide +kernel
theorem lDec : dec (lDigits.take 38) = 27742317777372353535851937790883648493 := by decide +kernel

theorem num_dig {w : World} {v : Value} {n N : Nat} (h : Num w v n) (hn : n < 65536 ^ N) : ∃ l, DigAt w v l ∧ Can l ∧ bv l = n ∧ l.length ≤ N := by
  obtain ⟨l, hd, hc, hb⟩ := h
  exact ⟨l, hd, hc, hb, num_len hc (by rw [hb]; exact hn)⟩

theorem Lq_pos : 0 < Lq := by decide
theorem Lq_lt : Lq < 65536 ^ 16 := by decide
theorem le8_size (s : ByteArray) : le8 s.data.toList < 256 ^ s.size := by
  have := le8_lt s.data.toList
  rwa [Array.length_toList] at this
theorem le8_N (s : ByteArray) (n : Nat) (h : s.size ≤ 2 * n) : le8 s.data.toList < 65536 ^ n := by
  rw [← pow256]; exact Nat.lt_of_lt_of_le (le8_size s) (Nat.pow_le_pow_right (by decide) h)

/-- what the document's reducing answers -/
def redOf (n : Nat) : ByteArray := ⟨(leBytes (n % Lq) 32).toArray⟩

end Go.Proofs.YtilccncddbgpbaaDoor

namespace Go.Proofs.YtilccncddbgpbaaDoor
open Go.RowKit

/-- the number that words write -/
def wv : List Nat → Nat
  | [] => 0
  | d :: r => d + 4294967296 * wv r
def Wd (l : List Nat) : Prop := ∀ d ∈ l, d < 4294967296
@[simp] theorem wv_nil : wv [] = 0 := rfl
@[simp] theorem wv_cons (d : Nat) (r : List Nat) : wv (d :: r) = d + 4294967296 * wv r := rfl
theorem wv_append (a b : List Nat) : wv (a ++ b) = wv a + 4294967296 ^ a.length * wv b := by
  induction a with
  | nil => simp
  | cons d r ih =>
    simp only [List.cons_append, wv_cons, ih, List.length_cons, Nat.pow_succ]
    rw [Nat.mul_add, ← Nat.mul_assoc, Nat.mul_comm 4294967296 (4294967296 ^ r.length), Nat.add_assoc]
theorem wv_snoc (a : List Nat) (d : Nat) : wv (a ++ [d]) = wv a + 4294967296 ^ a.length * d := by rw [wv_append]; simp
theorem Wd.take {a : List Nat} (ha : Wd a) (n : Nat) : Wd (a.take n) := fun d h => ha d (List.mem_of_mem_take h)
theorem Wd.getD {a : List Nat} (ha : Wd a) (n : Nat) : a.getD n 0 < 4294967296 := by
  rw [List.getD_eq_getElem?_getD]
  rcases hn : a[n]? with _ | d
  · simp
  · simpa using ha d (List.mem_of_getElem? hn)
theorem Wd.set {a : List Nat} (ha : Wd a) (n d : Nat) (hd : d < 4294967296) : Wd (a.set n d) := fun x h => by
  rcases List.mem_or_eq_of_mem_set h with h | h
  · exact ha x h
  · omega
theorem wv_lt {l : List Nat} (h : Wd l) : wv l < 4294967296 ^ l.length := by
  induction l with
  | nil => simp
  | cons d r ih =>
    have hd := h d (List.mem_cons_self ..)
    have := ih fun x hx => h x (List.mem_cons_of_mem _ hx)
    simp only [wv_cons, List.length_cons, Nat.pow_succ]
    omega
theorem wv_take_next (l : List Nat) (k : Nat) : wv (l.take (k + 1)) = wv (l.take k) + 4294967296 ^ k * l.getD k 0 := by
  rcases Nat.lt_or_ge k l.length with h | h
  · rw [take_succ_getD _ _ h, wv_snoc, List.length_take, Nat.min_eq_left (Nat.le_of_lt h)]
  · rw [List.take_of_length_le (by omega), List.take_of_length_le h, List.getD_eq_getElem?_getD, List.getElem?_eq_none h]; simp
theorem wv_take_ge (l : List Nat) (k : Nat) (h : l.length ≤ k) : wv (l.take k) = wv l := by rw [List.take_of_length_le h]
theorem wv_take_drop (l : List Nat) (k : Nat) (h : k ≤ l.length) : wv l = wv (l.take k) + 4294967296 ^ k * wv (l.drop k) := by
  conv => lhs; rw [← List.take_append_drop k l]
  rw [wv_append, List.length_take, Nat.min_eq_left h]
theorem wv_set (l : List Nat) (k d : Nat) (h : k < l.length) : wv (l.set k d) + 4294967296 ^ k * l.getD k 0 = wv l + 4294967296 ^ k * d := by
  have h1 := wv_take_drop l k (by omega)
  have h2 := wv_take_drop (l.set k d) k (by rw [List.length_set]; omega)
  rw [List.take_set_of_le (Nat.le_refl _)] at h2
  rw [drop_getD h, wv_cons] at h1
  rw [drop_getD (by rw [List.length_set]; exact h), wv_cons, List.drop_set_of_lt (by omega), List.getD_eq_getElem?_getD, List.getElem?_set_self h] at h2
  rw [h1, h2]
  simp only [Option.getD_some, Nat.mul_add]
  omega
theorem wv_digit {l : List Nat} (h : Wd l) (k : Nat) : wv l / 4294967296 ^ k % 4294967296 = l.getD k 0 := by
  rcases Nat.lt_or_ge k l.length with hk | hk
  · have e := wv_take_drop l k (by omega)
    rw [drop_getD hk, wv_cons] at e
    have h1 := wv_lt (h.take k)
    rw [List.length_take, Nat.min_eq_left (by omega)] at h1
    have h2 := h.getD k
    rw [e, Nat.add_comm, Nat.mul_add_div (Nat.pow_pos (by decide)), Nat.div_eq_of_lt h1]
    omega
  · rw [List.getD_eq_getElem?_getD, List.getElem?_eq_none hk, Nat.div_eq_of_lt]
    · rfl
    · exact Nat.lt_of_lt_of_le (wv_lt h) (Nat.pow_le_pow_right (by decide) hk)
theorem wpow (k : Nat) : 256 ^ (4 * k) = 4294967296 ^ k := by rw [Nat.pow_mul]
theorem byte_shift (n r : Nat) (hr : r < 4) : n % 4294967296 / 2 ^ (8 * r) % 256 = n / 2 ^ (8 * r) % 256 := by
  rcases (by omega : r = 0 ∨ r = 1 ∨ r = 2 ∨ r = 3) with rfl | rfl | rfl | rfl
  · simp only [Nat.mul_zero, Nat.pow_zero, Nat.div_one]; omega
  · simp only [Nat.reduceMul, Nat.reducePow]; omega
  · simp only [Nat.reduceMul, Nat.reducePow]; omega
  · simp only [Nat.reduceMul, Nat.reducePow]; omega
/-- the byte of a number in words -/
theorem wv_byte {l : List Nat} (h : Wd l) (i : Nat) : l.getD (i / 4) 0 / 2 ^ (8 * (i % 4)) % 256 = wv l / 256 ^ i % 256 := by
  have e : 256 ^ i = 4294967296 ^ (i / 4) * 2 ^ (8 * (i % 4)) := by
    rw [← wpow, show (256 : Nat) = 2 ^ 8 from rfl, ← Nat.pow_mul, ← Nat.pow_mul, ← Nat.pow_add]
    congr 1; omega
  rw [← wv_digit h, e, ← Nat.div_div_eq_div_mul]
  exact byte_shift _ _ (Nat.mod_lt _ (by decide))
/-- a word of four bytes -/
def word4 (l : List UInt8) (i : Nat) : Nat := (l.getD (4 * i) 0).toNat + 256 * (l.getD (4 * i + 1) 0).toNat + 65536 * (l.getD (4 * i + 2) 0).toNat + 16777216 * (l.getD (4 * i + 3) 0).toNat
theorem word4_lt (l : List UInt8) (i : Nat) : word4 l i < 4294967296 := by
  unfold word4
  have h0 := (l.getD (4 * i) 0).toNat_lt
  have h1 := (l.getD (4 * i + 1) 0).toNat_lt
  have h2 := (l.getD (4 * i + 2) 0).toNat_lt
  have h3 := (l.getD (4 * i + 3) 0).toNat_lt
  omega
theorem le8_word (l : List UInt8) (i : Nat) (h : 4 * i + 4 ≤ l.length) : le8 (l.take (4 * (i + 1))) = le8 (l.take (4 * i)) + 4294967296 ^ i * word4 l i := by
  rw [show 4 * (i + 1) = 4 * i + 3 + 1 from by omega, le8_take_succ _ _ (by omega), le8_take_succ _ _ (by omega), le8_take_succ _ _ (by omega), le8_take_succ _ _ (by omega)]
  rw [Nat.pow_succ 256 (4 * i + 2), Nat.pow_succ 256 (4 * i + 1), Nat.pow_succ 256 (4 * i), wpow]
  unfold word4
  generalize 4294967296 ^ i = W
  generalize (l.getD (4 * i) 0).toNat = a
  generalize (l.getD (4 * i + 1) 0).toNat = b
  generalize (l.getD (4 * i + 2) 0).toNat = c
  generalize (l.getD (4 * i + 3) 0).toNat = d
  generalize le8 (l.take (4 * i)) = e
  simp only [Nat.mul_add, Nat.mul_assoc, Nat.add_assoc]
  simp only [← Nat.mul_assoc 256 256, ← Nat.mul_assoc 256 65536, Nat.reduceMul]
/-- the words of bytes -/
def words (l : List UInt8) (n : Nat) : List Nat := (List.range n).map (word4 l)
theorem words_succ (l : List UInt8) (n : Nat) : words l (n + 1) = words l n ++ [word4 l n] := by simp [words, List.range_succ]
theorem words_length (l : List UInt8) (n : Nat) : (words l n).length = n := by simp [words]
theorem words_ok (l : List UInt8) (n : Nat) : Wd (words l n) := fun d h => by
  obtain ⟨i, _, rfl⟩ := List.mem_map.1 h
  exact word4_lt l i
theorem wv_words (l : List UInt8) (n : Nat) (h : 4 * n ≤ l.length) : wv (words l n) = le8 (l.take (4 * n)) := by
  induction n with
  | zero => simp [words, le8]
  | succ n ih => rw [words_succ, wv_snoc, words_length, ih (by omega), ← le8_word l n (by omega)]
theorem words_getD (l : List UInt8) (n i : Nat) (h : i < n) : (words l n).getD i 0 = word4 l i := by
  rw [List.getD_eq_getElem?_getD, words, List.getElem?_map, List.getElem?_range h]; rfl
theorem leBytes_le8 (l : List UInt8) : leBytes (le8 l) l.length = l := by
  apply List.ext_getElem
  · exact leBytes_length _ _
  · intro i h1 h2
    have e : le8 l = le8 (l.take i) + 256 ^ i * ((l.getD i 0).toNat + 256 * le8 (l.drop (i + 1))) := by
      conv => lhs; rw [← List.take_append_drop i l]
      rw [le8_append, List.length_take, Nat.min_eq_left (Nat.le_of_lt h2), List.drop_eq_getElem_cons h2, le8]
      simp [h2]
    have hlt := le8_lt (l.take i)
    rw [List.length_take, Nat.min_eq_left (Nat.le_of_lt h2)] at hlt
    simp only [leBytes, List.getElem_map, List.getElem_range]
    apply UInt8.toNat.inj
    rw [u8_of, e, Nat.add_comm, Nat.mul_add_div (Nat.pow_pos (by decide)), Nat.div_eq_of_lt hlt]
    have := (l[i]).toNat_lt
    simp [h2]
/-- bit of a number's bytes -/
theorem le8_bit (l : List UInt8) (i : Nat) (h : i < 8 * l.length) : (l.getD (i / 8) 0).toNat / 2 ^ (i % 8) % 2 = le8 l / 2 ^ i % 2 := by
  have h2 : i / 8 < l.length := by omega
  have e : le8 l = le8 (l.take (i / 8)) + 256 ^ (i / 8) * ((l.getD (i / 8) 0).toNat + 256 * le8 (l.drop (i / 8 + 1))) := by
    conv => lhs; rw [← List.take_append_drop (i / 8) l]
    rw [le8_append, List.length_take, Nat.min_eq_left (Nat.le_of_lt h2), List.drop_eq_getElem_cons h2, le8]
    simp [h2]
  have hlt := le8_lt (l.take (i / 8))
  rw [List.length_take, Nat.min_eq_left (Nat.le_of_lt h2)] at hlt
  have ep : 2 ^ i = 256 ^ (i / 8) * 2 ^ (i % 8) := by
    rw [show (256 : Nat) = 2 ^ 8 from rfl, ← Nat.pow_mul, ← Nat.pow_add]
    congr 1; omega
  rw [e, ep, ← Nat.div_div_eq_div_mul, Nat.add_comm (le8 _), Nat.mul_add_div (Nat.pow_pos (by decide)), Nat.div_eq_of_lt hlt, Nat.add_zero]
  have hr : i % 8 < 8 := Nat.mod_lt _ (by decide)
  generalize (l.getD (i / 8) 0).toNat = n
  generalize le8 (l.drop (i / 8 + 1)) = m
  generalize i % 8 = r at *
  match r, hr with
  | 0, _ => simp; omega
  | 1, _ => simp; omega
  | 2, _ => simp; omega
  | 3, _ => simp; omega
  | 4, _ => simp; omega
  | 5, _ => simp; omega
  | 6, _ => simp; omega
  | 7, _ => simp; omega
theorem bit_step (N i : Nat) : N / 2 ^ i = 2 * (N / 2 ^ (i + 1)) + N / 2 ^ i % 2 := by
  rw [Nat.pow_succ, ← Nat.div_div_eq_div_mul]; omega
/-- L's words -/
def orderL : List Nat := [0x5cf5d3ed, 0x5812631a, 0xa2f79cd6, 0x14def9de, 0, 0, 0, 0x10000000]
theorem wv_order : wv orderL = Lq := by decide +kernel
theorem order_ok : Wd orderL := by unfold Wd; decide
theorem wv_split {l m : List Nat} {i : Nat} (hl : Wd l) (hlen : l.length = m.length) (hi : i < l.length) (h : l.drop (i + 1) = m.drop (i + 1)) (hlt : l.getD i 0 < m.getD i 0) : wv l < wv m := by
  have e1 := wv_take_drop l (i + 1) (by omega)
  have e2 := wv_take_drop m (i + 1) (by omega)
  rw [h] at e1
  rw [wv_take_next] at e1 e2
  have h1 := wv_lt (hl.take i)
  rw [List.length_take, Nat.min_eq_left (by omega)] at h1
  have h3 : 4294967296 ^ i * (l.getD i 0 + 1) ≤ 4294967296 ^ i * m.getD i 0 := Nat.mul_le_mul_left _ hlt
  rw [Nat.mul_add, Nat.mul_one] at h3
  omega
/-! ### the walks' rounds -/
theorem sub_step {l0 l' : List Nat} {i c c' y x' : Nat} {T : Nat} (hi : i < l'.length) (h : wv l' + T = wv l0 + c * 4294967296 ^ i) (hx : x' + y + c = l'.getD i 0 + 4294967296 * c') :
    wv (l'.set i x') + (T + 4294967296 ^ i * y) = wv l0 + c' * 4294967296 ^ (i + 1) := by
  have hs := wv_set l' i x' hi
  rw [Nat.pow_succ]
  generalize 4294967296 ^ i = W at *
  generalize l'.getD i 0 = x at *
  have e : W * x' + W * y + W * c = W * x + W * (4294967296 * c') := by rw [← Nat.mul_add, ← Nat.mul_add, hx, Nat.mul_add]
  have e3 : c' * (W * 4294967296) = W * (4294967296 * c') := by rw [Nat.mul_comm c', Nat.mul_assoc]
  rw [e3]
  rw [Nat.mul_comm c W] at h
  omega
theorem shift_step {l l' : List Nat} {i b b0 x' b' : Nat} (hi : i < l'.length) (h : wv l' + b * 4294967296 ^ i = wv l + wv (l.take i) + b0) (he : l'.getD i 0 = l.getD i 0) (hx : x' + 4294967296 * b' = 2 * l.getD i 0 + b) :
    wv (l'.set i x') + b' * 4294967296 ^ (i + 1) = wv l + wv (l.take (i + 1)) + b0 := by
  have hs := wv_set l' i x' hi
  rw [wv_take_next, Nat.pow_succ]
  rw [he] at hs
  generalize 4294967296 ^ i = W at *
  generalize l.getD i 0 = x at *
  have e : W * x' + W * (4294967296 * b') = W * x + W * x + W * b := by rw [← Nat.mul_add, hx, Nat.mul_add, Nat.two_mul, Nat.mul_add]
  have e3 : b' * (W * 4294967296) = W * (4294967296 * b') := by rw [Nat.mul_comm b', Nat.mul_assoc]
  rw [e3]
  rw [Nat.mul_comm b W] at h
  omega
theorem wmul_inner {lo : List Nat} {i j c x y T B p : Nat} (hk : i + j < lo.length) (h : wv lo + c * 4294967296 ^ (i + j) = T + 4294967296 ^ i * (x * B)) (hp : p = 4294967296 ^ j * y) :
    wv (lo.set (i + j) ((lo.getD (i + j) 0 + x * y + c) % 4294967296)) + (lo.getD (i + j) 0 + x * y + c) / 4294967296 * 4294967296 ^ (i + (j + 1)) = T + 4294967296 ^ i * (x * (B + p)) := by
  have hs := wv_set lo (i + j) ((lo.getD (i + j) 0 + x * y + c) % 4294967296) hk
  have hm := Nat.mod_add_div (lo.getD (i + j) 0 + x * y + c) 4294967296
  generalize lo.getD (i + j) 0 = d at *
  generalize (d + x * y + c) % 4294967296 = r at *
  generalize (d + x * y + c) / 4294967296 = q at *
  subst hp
  have e1 : 4294967296 ^ (i + (j + 1)) = 4294967296 ^ (i + j) * 4294967296 := by rw [← Nat.add_assoc, Nat.pow_succ]
  have e2 : 4294967296 ^ i * (x * (B + 4294967296 ^ j * y)) = 4294967296 ^ i * (x * B) + 4294967296 ^ (i + j) * (x * y) := by
    rw [Nat.mul_add, Nat.mul_add, Nat.pow_add]
    congr 1
    rw [Nat.mul_assoc, ← Nat.mul_assoc x, Nat.mul_comm x, Nat.mul_assoc]
  rw [e1, e2]
  generalize 4294967296 ^ (i + j) = W at *
  generalize 4294967296 ^ i * (x * B) = V at *
  have e3 : q * (W * 4294967296) = W * (4294967296 * q) := by rw [Nat.mul_comm q, Nat.mul_assoc]
  have e4 : W * r + W * (4294967296 * q) = W * d + W * (x * y) + W * c := by rw [← Nat.mul_add, hm, Nat.mul_add, Nat.mul_add]
  rw [e3]
  rw [Nat.mul_comm c W] at h
  omega
theorem wmul_carry {lo : List Nat} {k c T : Nat} (hk : k < lo.length) (h : wv lo + c * 4294967296 ^ k = T) :
    wv (lo.set k ((lo.getD k 0 + c) % 4294967296)) + (lo.getD k 0 + c) / 4294967296 * 4294967296 ^ (k + 1) = T := by
  have hs := wv_set lo k ((lo.getD k 0 + c) % 4294967296) hk
  have hm := Nat.mod_add_div (lo.getD k 0 + c) 4294967296
  generalize lo.getD k 0 = d at *
  generalize (d + c) % 4294967296 = r at *
  generalize (d + c) / 4294967296 = q at *
  rw [Nat.pow_succ]
  generalize 4294967296 ^ k = W at *
  have e3 : q * (W * 4294967296) = W * (4294967296 * q) := by rw [Nat.mul_comm q, Nat.mul_assoc]
  have e4 : W * r + W * (4294967296 * q) = W * d + W * c := by rw [← Nat.mul_add, hm, Nat.mul_add]
  rw [e3]
  rw [Nat.mul_comm c W] at h
  omega
end Go.Proofs.YtilccncddbgpbaaDoor
