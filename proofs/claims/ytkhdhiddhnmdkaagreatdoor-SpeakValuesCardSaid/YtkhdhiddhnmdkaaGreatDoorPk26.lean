/-
Plain law: numbers in words of 32 bits, the lowest first.
The contracts of scalar's methods.
-/
import Derived.BigQuiet
import Derived.Laws.BitsAllLaws
import Derived.Test.YtkhdhiddhnmdkaaGreatDoorPk25
import Derived.Test.YtkhdhiddhnmdkaaGreatDoorPk16
namespace Go.Proofs.YtkhdhiddhnmdkaaGreatDoor
open Go.RowKit

/-- the number that words write -/
def wv : List Nat → Nat
  | [] => 0
  | d :: r => d + 4294967296 * wv r
def Wd (l : List Nat) : Prop := ∀ d ∈ l, d < 4294967296
@[simp] theorem wv_nil : wv [] = 0 := rfl
@[simp] theorem wv_cons (d : Nat) (r : List Nat) : wv (d :: r) = d + 4294967296 * wv r := rfl
theorem wv_append (a b : List Nat) : wv (a ++ b) = wv a + 4294967296 ^ a.length * wv b := by
  induction a with
  | nil => simp
  | cons d r ih =>
    simp only [List.cons_append, wv_cons, ih, List.length_cons, Nat.pow_succ]
    rw [Nat.mul_add, ← Nat.mul_assoc, Nat.mul_comm 4294967296 (4294967296 ^ r.length), Nat.add_assoc]
theorem wv_snoc (a : List Nat) (d : Nat) : wv (a ++ [d]) = wv a + 4294967296 ^ a.length * d := by rw [wv_append]; simp
theorem Wd.take {a : List Nat} (ha : Wd a) (n : Nat) : Wd (a.take n) := fun d h => ha d (List.mem_of_mem_take h)
theorem Wd.getD {a : List Nat} (ha : Wd a) (n : Nat) : a.getD n 0 < 4294967296 := by
  rw [List.getD_eq_getElem?_getD]
  rcases hn : a[n]? with _ | d
  · simp
  · simpa using ha d (List.mem_of_getElem? hn)
theorem Wd.set {a : List Nat} (ha : Wd a) (n d : Nat) (hd : d < 4294967296) : Wd (a.set n d) := fun x h => by
  rcases List.mem_or_eq_of_mem_set h with h | h
  · exact ha x h
  · omega
theorem wv_lt {l : List Nat} (h : Wd l) : wv l < 4294967296 ^ l.length := by
  induction l with
  | nil => simp
  | cons d r ih =>
    have hd := h d (List.mem_cons_self ..)
    have := ih fun x hx => h x (List.mem_cons_of_mem _ hx)
    simp only [wv_cons, List.length_cons, Nat.pow_succ]
    omega
theorem wv_take_next (l : List Nat) (k : Nat) : wv (l.take (k + 1)) = wv (l.take k) + 4294967296 ^ k * l.getD k 0 := by
  rcases Nat.lt_or_ge k l.length with h | h
  · rw [take_succ_getD _ _ h, wv_snoc, List.length_take, Nat.min_eq_left (Nat.le_of_lt h)]
  · rw [List.take_of_length_le (by omega), List.take_of_length_le h, List.getD_eq_getElem?_getD, List.getElem?_eq_none h]; simp
theorem wv_take_ge (l : List Nat) (k : Nat) (h : l.length ≤ k) : wv (l.take k) = wv l := by rw [List.take_of_length_le h]
theorem wv_take_drop (l : List Nat) (k : Nat) (h : k ≤ l.length) : wv l = wv (l.take k) + 4294967296 ^ k * wv (l.drop k) := by
  conv => lhs; rw [← List.take_append_drop k l]
  rw [wv_append, List.length_take, Nat.min_eq_left h]
theorem wv_set (l : List Nat) (k d : Nat) (h : k < l.length) : wv (l.set k d) + 4294967296 ^ k * l.getD k 0 = wv l + 4294967296 ^ k * d := by
  have h1 := wv_take_drop l k (by omega)
  have h2 := wv_take_drop (l.set k d) k (by rw [List.length_set]; omega)
  rw [List.take_set_of_le (Nat.le_refl _)] at h2
  rw [drop_getD h, wv_cons] at h1
  rw [drop_getD (by rw [List.length_set]; exact h), wv_cons, List.drop_set_of_lt (by omega), List.getD_eq_getElem?_getD, List.getElem?_set_self h] at h2
  rw [h1, h2]
  simp only [Option.getD_some, Nat.mul_add]
  omega
theorem wv_digit {l : List Nat} (h : Wd l) (k : Nat) : wv l / 4294967296 ^ k % 4294967296 = l.getD k 0 := by
  rcases Nat.lt_or_ge k l.length with hk | hk
  · have e := wv_take_drop l k (by omega)
    rw [drop_getD hk, wv_cons] at e
    have h1 := wv_lt (h.take k)
    rw [List.length_take, Nat.min_eq_left (by omega)] at h1
    have h2 := h.getD k
    rw [e, Nat.add_comm, Nat.mul_add_div (Nat.pow_pos (by decide)), Nat.div_eq_of_lt h1]
    omega
  · rw [List.getD_eq_getElem?_getD, List.getElem?_eq_none hk, Nat.div_eq_of_lt]
    · rfl
    · exact Nat.lt_of_lt_of_le (wv_lt h) (Nat.pow_le_pow_right (by decide) hk)
theorem wpow (k : Nat) : 256 ^ (4 * k) = 4294967296 ^ k := by rw [Nat.pow_mul]
theorem byte_shift (n r : Nat) (hr : r < 4) : n % 4294967296 / 2 ^ (8 * r) % 256 = n / 2 ^ (8 * r) % 256 := by
  rcases (by omega : r = 0 ∨ r = 1 ∨ r = 2 ∨ r = 3) with rfl | rfl | rfl | rfl
  · simp only [Nat.mul_zero, Nat.pow_zero, Nat.div_one]; omega
  · simp only [Nat.reduceMul, Nat.reducePow]; omega
  · simp only [Nat.reduceMul, Nat.reducePow]; omega
  · simp only [Nat.reduceMul, Nat.reducePow]; omega
/-- the byte of a number in words -/
theorem wv_byte {l : List Nat} (h : Wd l) (i : Nat) : l.getD (i / 4) 0 / 2 ^ (8 * (i % 4)) % 256 = wv l / 256 ^ i % 256 := by
  have e : 256 ^ i = 4294967296 ^ (i / 4) * 2 ^ (8 * (i % 4)) := by
    rw [← wpow, show (256 : Nat) = 2 ^ 8 from rfl, ← Nat.pow_mul, ← Nat.pow_mul, ← Nat.pow_add]
    congr 1; omega
  rw [← wv_digit h, e, ← Nat.div_div_eq_div_mul]
  exact byte_shift _ _ (Nat.mod_lt _ (by decide))
/-- a word of four bytes -/
def word4 (l : List UInt8) (i : Nat) : Nat := (l.getD (4 * i) 0).toNat + 256 * (l.getD (4 * i + 1) 0).toNat + 65536 * (l.getD (4 * i + 2) 0).toNat + 16777216 * (l.getD (4 * i + 3) 0).toNat
theorem word4_lt (l : List UInt8) (i : Nat) : word4 l i < 4294967296 := by
  unfold word4
  have h0 := (l.getD (4 * i) 0).toNat_lt
  have h1 := (l.getD (4 * i + 1) 0).toNat_lt
  have h2 := (l.getD (4 * i + 2) 0).toNat_lt
  have h3 := (l.getD (4 * i + 3) 0).toNat_lt
  omega
theorem le8_word (l : List UInt8) (i : Nat) (h : 4 * i + 4 ≤ l.length) : le8 (l.take (4 * (i + 1))) = le8 (l.take (4 * i)) + 4294967296 ^ i * word4 l i := by
  rw [show 4 * (i + 1) = 4 * i + 3 + 1 from by omega, le8_take_succ _ _ (by omega), le8_take_succ _ _ (by omega), le8_take_succ _ _ (by omega), le8_take_succ _ _ (by omega)]
  rw [Nat.pow_succ 256 (4 * i + 2), Nat.pow_succ 256 (4 * i + 1), Nat.pow_succ 256 (4 * i), wpow]
  unfold word4
  generalize 4294967296 ^ i = W
  generalize (l.getD (4 * i) 0).toNat = a
  generalize (l.getD (4 * i + 1) 0).toNat = b
  generalize (l.getD (4 * i + 2) 0).toNat = c
  generalize (l.getD (4 * i + 3) 0).toNat = d
  generalize le8 (l.take (4 * i)) = e
  simp only [Nat.mul_add, Nat.mul_assoc, Nat.add_assoc]
  simp only [← Nat.mul_assoc 256 256, ← Nat.mul_assoc 256 65536, Nat.reduceMul]
/-- the words of bytes -/
def words (l : List UInt8) (n : Nat) : List Nat := (List.range n).map (word4 l)
theorem words_succ (l : List UInt8) (n : Nat) : words l (n + 1) = words l n ++ [word4 l n] := by simp [words, List.range_succ]
theorem words_length (l : List UInt8) (n : Nat) : (words l n).length = n := by simp [words]
theorem words_ok (l : List UInt8) (n : Nat) : Wd (words l n) := fun d h => by
  obtain ⟨i, _, rfl⟩ := List.mem_map.1 h
  exact word4_lt l i
theorem wv_words (l : List UInt8) (n : Nat) (h : 4 * n ≤ l.length) : wv (words l n) = le8 (l.take (4 * n)) := by
  induction n with
  | zero => simp [words, le8]
  | succ n ih => rw [words_succ, wv_snoc, words_length, ih (by omega), ← le8_word l n (by omega)]
theorem words_getD (l : List UInt8) (n i : Nat) (h : i < n) : (words l n).getD i 0 = word4 l i := by
  rw [List.getD_eq_getElem?_getD, words, List.getElem?_map, List.getElem?_range h]; rfl
theorem leBytes_le8 (l : List UInt8) : leBytes (le8 l) l.length = l := by
  apply List.ext_getElem
  · exact leBytes_length _ _
  · intro i h1 h2
    have e : le8 l = le8 (l.take i) + 256 ^ i * ((l.getD i 0).toNat + 256 * le8 (l.drop (i + 1))) := by
      conv => lhs; rw [← List.take_append_drop i l]
      rw [le8_append, List.length_take, Nat.min_eq_left (Nat.le_of_lt h2), List.drop_eq_getElem_cons h2, le8]
      simp [h2]
    have hlt := le8_lt (l.take i)
    rw [List.length_take, Nat.min_eq_left (Nat.le_of_lt h2)] at hlt
    simp only [leBytes, List.getElem_map, List.getElem_range]
    apply UInt8.toNat.inj
    rw [u8_of, e, Nat.add_comm, Nat.mul_add_div (Nat.pow_pos (by decide)), Nat.div_eq_of_lt hlt]
    have := (l[i]).toNat_lt
    simp [h2]
/-- bit of a number's bytes -/
theorem le8_bit (l : List UInt8) (i : Nat) (h : i < 8 * l.length) : (l.getD (i / 8) 0).toNat / 2 ^ (i % 8) % 2 = le8 l / 2 ^ i % 2 := by
  have h2 : i / 8 < l.length := by omega
  have e : le8 l = le8 (l.take (i / 8)) + 256 ^ (i / 8) * ((l.getD (i / 8) 0).toNat + 256 * le8 (l.drop (i / 8 + 1))) := by
    conv => lhs; rw [← List.take_append_drop (i / 8) l]
    rw [le8_append, List.length_take, Nat.min_eq_left (Nat.le_of_lt h2), List.drop_eq_getElem_cons h2, le8]
    simp [h2]
  have hlt := le8_lt (l.take (i / 8))
  rw [List.length_take, Nat.min_eq_left (Nat.le_of_lt h2)] at hlt
  have ep : 2 ^ i = 256 ^ (i / 8) * 2 ^ (i % 8) := by
    rw [show (256 : Nat) = 2 ^ 8 from rfl, ← Nat.pow_mul, ← Nat.pow_add]
    congr 1; omega
  rw [e, ep, ← Nat.div_div_eq_div_mul, Nat.add_comm (le8 _), Nat.mul_add_div (Nat.pow_pos (by decide)), Nat.div_eq_of_lt hlt, Nat.add_zero]
  have hr : i % 8 < 8 := Nat.mod_lt _ (by decide)
  generalize (l.getD (i / 8) 0).toNat = n
  generalize le8 (l.drop (i / 8 + 1)) = m
  generalize i % 8 = r at *
  match r, hr with
  | 0, _ => simp; omega
  | 1, _ => simp; omega
  | 2, _ => simp; omega
  | 3, _ => simp; omega
  | 4, _ => simp; omega
  | 5, _ => simp; omega
  | 6, _ => simp; omega
  | 7, _ => simp; omega
theorem bit_step (N i : Nat) : N / 2 ^ i = 2 * (N / 2 ^ (i + 1)) + N / 2 ^ i % 2 := by
  rw [Nat.pow_succ, ← Nat.div_div_eq_div_mul]; omega
/-- L's words -/
def orderL : List Nat := [0x5cf5d3ed, 0x5812631a, 0xa2f79cd6, 0x14def9de, 0, 0, 0, 0x10000000]
theorem wv_order : wv orderL = Lq := by decide +kernel
theorem order_ok : Wd orderL := by unfold Wd; decide
theorem wv_split {l m : List Nat} {i : Nat} (hl : Wd l) (hlen : l.length = m.length) (hi : i < l.length) (h : l.drop (i + 1) = m.drop (i + 1)) (hlt : l.getD i 0 < m.getD i 0) : wv l < wv m := by
  have e1 := wv_take_drop l (i + 1) (by omega)
  have e2 := wv_take_drop m (i + 1) (by omega)
  rw [h] at e1
  rw [wv_take_next] at e1 e2
  have h1 := wv_lt (hl.take i)
  rw [List.length_take, Nat.min_eq_left (by omega)] at h1
  have h3 : 4294967296 ^ i * (l.getD i 0 + 1) ≤ 4294967296 ^ i * m.getD i 0 := Nat.mul_le_mul_left _ hlt
  rw [Nat.mul_add, Nat.mul_one] at h3
  omega
/-! ### the walks' rounds -/
theorem sub_step {l0 l' : List Nat} {i c c' y x' : Nat} {T : Nat} (hi : i < l'.length) (h : wv l' + T = wv l0 + c * 4294967296 ^ i) (hx : x' + y + c = l'.getD i 0 + 4294967296 * c') :
    wv (l'.set i x') + (T + 4294967296 ^ i * y) = wv l0 + c' * 4294967296 ^ (i + 1) := by
  have hs := wv_set l' i x' hi
  rw [Nat.pow_succ]
  generalize 4294967296 ^ i = W at *
  generalize l'.getD i 0 = x at *
  have e : W * x' + W * y + W * c = W * x + W * (4294967296 * c') := by rw [← Nat.mul_add, ← Nat.mul_add, hx, Nat.mul_add]
  have e3 : c' * (W * 4294967296) = W * (4294967296 * c') := by rw [Nat.mul_comm c', Nat.mul_assoc]
  rw [e3]
  rw [Nat.mul_comm c W] at h
  omega
theorem shift_step {l l' : List Nat} {i b b0 x' b' : Nat} (hi : i < l'.length) (h : wv l' + b * 4294967296 ^ i = wv l + wv (l.take i) + b0) (he : l'.getD i 0 = l.getD i 0) (hx : x' + 4294967296 * b' = 2 * l.getD i 0 + b) :
    wv (l'.set i x') + b' * 4294967296 ^ (i + 1) = wv l + wv (l.take (i + 1)) + b0 := by
  have hs := wv_set l' i x' hi
  rw [wv_take_next, Nat.pow_succ]
  rw [he] at hs
  generalize 4294967296 ^ i = W at *
  generalize l.getD i 0 = x at *
  have e : W * x' + W * (4294967296 * b') = W * x + W * x + W * b := by rw [← Nat.mul_add, hx, Nat.mul_add, Nat.two_mul, Nat.mul_add]
  have e3 : b' * (W * 4294967296) = W * (4294967296 * b') := by rw [Nat.mul_comm b', Nat.mul_assoc]
  rw [e3]
  rw [Nat.mul_comm b W] at h
  omega
theorem wmul_inner {lo : List Nat} {i j c x y T B p : Nat} (hk : i + j < lo.length) (h : wv lo + c * 4294967296 ^ (i + j) = T + 4294967296 ^ i * (x * B)) (hp : p = 4294967296 ^ j * y) :
    wv (lo.set (i + j) ((lo.getD (i + j) 0 + x * y + c) % 4294967296)) + (lo.getD (i + j) 0 + x * y + c) / 4294967296 * 4294967296 ^ (i + (j + 1)) = T + 4294967296 ^ i * (x * (B + p)) := by
  have hs := wv_set lo (i + j) ((lo.getD (i + j) 0 + x * y + c) % 4294967296) hk
  have hm := Nat.mod_add_div (lo.getD (i + j) 0 + x * y + c) 4294967296
  generalize lo.getD (i + j) 0 = d at *
  generalize (d + x * y + c) % 4294967296 = r at *
  generalize (d + x * y + c) / 4294967296 = q at *
  subst hp
  have e1 : 4294967296 ^ (i + (j + 1)) = 4294967296 ^ (i + j) * 4294967296 := by rw [← Nat.add_assoc, Nat.pow_succ]
  have e2 : 4294967296 ^ i * (x * (B + 4294967296 ^ j * y)) = 4294967296 ^ i * (x * B) + 4294967296 ^ (i + j) * (x * y) := by
    rw [Nat.mul_add, Nat.mul_add, Nat.pow_add]
    congr 1
    rw [Nat.mul_assoc, ← Nat.mul_assoc x, Nat.mul_comm x, Nat.mul_assoc]
  rw [e1, e2]
  generalize 4294967296 ^ (i + j) = W at *
  generalize 4294967296 ^ i * (x * B) = V at *
  have e3 : q * (W * 4294967296) = W * (4294967296 * q) := by rw [Nat.mul_comm q, Nat.mul_assoc]
  have e4 : W * r + W * (4294967296 * q) = W * d + W * (x * y) + W * c := by rw [← Nat.mul_add, hm, Nat.mul_add, Nat.mul_add]
  rw [e3]
  rw [Nat.mul_comm c W] at h
  omega
theorem wmul_carry {lo : List Nat} {k c T : Nat} (hk : k < lo.length) (h : wv lo + c * 4294967296 ^ k = T) :
    wv (lo.set k ((lo.getD k 0 + c) % 4294967296)) + (lo.getD k 0 + c) / 4294967296 * 4294967296 ^ (k + 1) = T := by
  have hs := wv_set lo k ((lo.getD k 0 + c) % 4294967296) hk
  have hm := Nat.mod_add_div (lo.getD k 0 + c) 4294967296
  generalize lo.getD k 0 = d at *
  generalize (d + c) % 4294967296 = r at *
  generalize (d + c) / 4294967296 = q at *
  rw [Nat.pow_succ]
  generalize 4294967296 ^ k = W at *
  have e3 : q * (W * 4294967296) = W * (4294967296 * q) := by rw [Nat.mul_comm q, Nat.mul_assoc]
  have e4 : W * r + W * (4294967296 * q) = W * d + W * c := by rw [← Nat.mul_add, hm, Nat.mul_add]
  rw [e3]
  rw [Nat.mul_comm c W] at h
  omega
end Go.Proofs.YtkhdhiddhnmdkaaGreatDoor

namespace Go.Proofs.YtkhdhiddhnmdkaaGreatDoor
open Go.RowKit

def wvals (l : List Nat) : List Value := l.map fun d => Value.int .u32 (d : Nat)
theorem wvals_get (l : List Nat) (i : Nat) (h : i < l.length) : (wvals l)[i]? = some (.int .u32 (l.getD i 0 : Nat)) := by
  simp [wvals, h]
theorem wvals_set (l : List Nat) (i d : Nat) : wvals (l.set i d) = (wvals l).set i (.int .u32 (d : Nat)) := by simp [wvals, List.map_set]
/-- the laid table -/
def Ordr (w : World) : Prop := ∀ i, i < 8 → w.cell? ⟨6, i, none⟩ = some (.int .u32 (orderL.getD i 0 : Nat))
theorem Ordr.below {B : Nat} {w w' : World} (h : Ordr w) (hb : Below B w w') (hB : 6 < B) : Ordr w' := fun i hi => by
  rw [hb.cell (p := ⟨6, i, none⟩) hB]; exact h i hi
/-- block b is a num -/
def Nm (w : World) (b : Nat) (l : List Nat) : Prop := Wd l ∧ l.length = 9 ∧ Blk w b 147 (wvals l)

theorem or_add (k a b : Nat) (h : a < 2 ^ k) : a ||| b * 2 ^ k = a + b * 2 ^ k := by
  rw [Nat.or_comm, Nat.mul_comm, ← Nat.two_pow_add_eq_or_of_lt h, Nat.add_comm]
theorem u64_or8 (a b : Nat) (ha : a < 256) (hb : b < 72057594037927936) : bits .or .u64 (a : Int) ((b : Int) * 256) = ((a + b * 256 : Nat) : Int) := by
  have h := u64_or_nat a (b * 256) (by omega) (by omega)
  rw [show (256 : Nat) = 2 ^ 8 from rfl, or_add 8 a b ha] at h
  simpa using h
theorem u64_or16 (a b : Nat) (ha : a < 65536) (hb : b < 281474976710656) : bits .or .u64 (a : Int) ((b : Int) * 65536) = ((a + b * 65536 : Nat) : Int) := by
  have h := u64_or_nat a (b * 65536) (by omega) (by omega)
  rw [show (65536 : Nat) = 2 ^ 16 from rfl, or_add 16 a b ha] at h
  simpa using h
theorem u64_or24 (a b : Nat) (ha : a < 16777216) (hb : b < 1099511627776) : bits .or .u64 (a : Int) ((b : Int) * 16777216) = ((a + b * 16777216 : Nat) : Int) := by
  have h := u64_or_nat a (b * 16777216) (by omega) (by omega)
  rw [show (16777216 : Nat) = 2 ^ 24 from rfl, or_add 24 a b ha] at h
  simpa using h

set_option maxHeartbeats 1000000 in
set_option maxRecDepth 100000 in
theorem word_ok (l : List UInt8) (i : Nat) (w : World) (hl : l.length = 32) (hi : i < 8) :
    Calls Tryz.prog 76 #[ag l, .int .i64 i] w fun e w' => e = .returned (.int .u64 (word4 l i : Nat)) ∧ Below w.heap.size w w' := by
  show Calls Tryz.prog _ #[.agg (bvals l).toArray, .int .i64 i] w _
  have hw4 : word4 l i = (l.getD (4 * i) 0).toNat + 256 * (l.getD (4 * i + 1) 0).toNat + 65536 * (l.getD (4 * i + 2) 0).toNat + 16777216 * (l.getD (4 * i + 3) 0).toNat := rfl
  have hb := Blk.new w 48 (bvals l)
  have c0 := hb.cell (4 * i) _ (bvals_get l (4 * i) (by omega))
  have c1 := hb.cell (4 * i + 1) _ (bvals_get l (4 * i + 1) (by omega))
  have c2 := hb.cell (4 * i + 2) _ (bvals_get l (4 * i + 2) (by omega))
  have c3 := hb.cell (4 * i + 3) _ (bvals_get l (4 * i + 3) (by omega))
  have b0 := (l.getD (4 * i) 0).toNat_lt
  have b1 := (l.getD (4 * i + 1) 0).toNat_lt
  have b2 := (l.getD (4 * i + 2) 0).toNat_lt
  have b3 := (l.getD (4 * i + 3) 0).toNat_lt
  have HB : Hid (Below w.heap.size w (w.alloc (.cells (bvals l).toArray 48))) := (Below.refl _ _).alloc (Nat.le_refl _) _
  generalize (l.getD (4 * i) 0).toNat = x0 at *
  generalize (l.getD (4 * i + 1) 0).toNat = x1 at *
  generalize (l.getD (4 * i + 2) 0).toNat = x2 at *
  generalize (l.getD (4 * i + 3) 0).toNat = x3 at *
  have HW := Lib.hid hw4
  clear hw4 hb
  go_enter Tryz.func76, Tryz.ntmps76
  go_wp2
  go_quiet (fail)
  go_wp2
  go_ret
  refine ⟨?_, below_drewN HB.out _⟩
  have e1 := u64_or8 x0 x1 (by omega) (by omega)
  have e2 := u64_or16 (x0 + x1 * 256) x2 (by omega) (by omega)
  have e3 := u64_or24 (x0 + x1 * 256 + x2 * 65536) x3 (by omega) (by omega)
  rw [e1, e2, e3, HW.out]
  exact ret_int (by omega)
theorem wgetD_app (l : List Nat) (i : Nat) : (l ++ [0]).getD i 0 = l.getD i 0 := by
  rcases Nat.lt_or_ge i l.length with h | h
  · simp [List.getD_eq_getElem?_getD, List.getElem?_append_left h]
  · rw [List.getD_eq_getElem?_getD, List.getD_eq_getElem?_getD, List.getElem?_append_right h, List.getElem?_eq_none h]
    cases h2 : i - l.length <;> simp
theorem Lq_small : Lq < 4294967296 ^ 8 := by decide +kernel
theorem less_top {l : List Nat} (hl : l.length = 9) (h : l.getD 8 0 ≠ 0) : ¬ wv l < Lq := by
  have e := wv_take_next l 8
  rw [List.take_of_length_le (by omega)] at e
  have h2 : 4294967296 ^ 8 * 1 ≤ 4294967296 ^ 8 * l.getD 8 0 := Nat.mul_le_mul_left _ (by omega)
  have h3 := Lq_small
  omega
theorem less_run {l : List Nat} {k : Nat} (hw : Wd l) (hl : l.length = 9) (hk : k < 8) (h : l.drop (k + 1) = (orderL ++ [0]).drop (k + 1)) (hne : l.getD k 0 ≠ orderL.getD k 0) : decide (wv l < Lq) = decide (l.getD k 0 < orderL.getD k 0) := by
  have hO : wv (orderL ++ [0]) = Lq := by decide +kernel
  have hWO : Wd (orderL ++ [0]) := by unfold Wd; decide
  have hg := wgetD_app orderL k
  rcases Nat.lt_or_ge (l.getD k 0) (orderL.getD k 0) with hlt | hge
  · have := wv_split hw (m := orderL ++ [0]) (by rw [hl]; rfl) (by omega) h (by rw [hg]; exact hlt)
    rw [hO] at this
    rw [decide_eq_true this, decide_eq_true hlt]
  · have := wv_split hWO (m := l) (by rw [hl]; rfl) (by show k < 9; omega) h.symm (by rw [hg]; omega)
    rw [hO] at this
    rw [decide_eq_false (by omega), decide_eq_false (by omega)]
theorem drop_eq {l m : List Nat} {k : Nat} (hl : k < l.length) (hm : k < m.length) (h : l.drop (k + 1) = m.drop (k + 1)) (he : l.getD k 0 = m.getD k 0) : l.drop k = m.drop k := by
  rw [drop_getD hl, drop_getD hm, h, he]

set_option maxHeartbeats 1000000 in
set_option maxRecDepth 100000 in
theorem less_ok (l : List Nat) (b : Nat) (w : World) (h : Nm w b l) (ho : Ordr w) :
    Calls Tryz.prog 118 #[.pointer (some ⟨b, 0, none⟩)] w fun e w' => e = .returned (.bool (decide (wv l < Lq))) ∧ ∃ n, w.drewN n = w' := by
  obtain ⟨hw, hl, hb⟩ := h
  have HB := Lib.hid hb
  have c8 := Blk.cell hb 8 _ (wvals_get l 8 (by omega))
  have HW := Lib.hid hw
  have HO := Lib.hid ho
  have g8 := hw.getD 8
  clear hb hw ho
  by_cases h8 : l.getD 8 0 = 0
  · have H8 := Lib.hid h8
    rw [h8] at c8
    clear h8 g8
    go_enter Tryz.func118, Tryz.ntmps118
    go_wp2
    go_loopw [3] (fun vi wr => ∃ k : Nat, vi = .int .i64 (k - 1 : Int) ∧ k ≤ 8 ∧ Hid (l.drop k = (orderL ++ [0]).drop k) ∧ Hid (∃ n, w.drewN n = wr)) (fun vi _ => (intOf vi + 1).toNat)
    case atStart => exact ⟨8, rfl, by omega, drop_eq (by omega) (by decide) (by rw [List.drop_eq_nil_of_le (by omega)]; rfl) H8.out, 0, rfl⟩
    case round =>
      obtain ⟨k, rfl, hk, hd, hn⟩ := hrel
      rcases Nat.eq_zero_or_pos k with rfl | hpos
      · have he : l = orderL ++ [0] := hd.out
        have hf : decide (wv l < Lq) = false := by rw [he]; decide +kernel
        have HF := Lib.hid hf
        clear hd hf he
        go_wp2
        go_ret
        exact ⟨ret_bool HF.out.symm, hn.out⟩
      · obtain ⟨j, rfl⟩ : ∃ j, k = j + 1 := ⟨k - 1, by omega⟩
        have e1 : (((j + 1 : Nat) : Int) - 1) = (j : Int) := by omega
        rw [e1]
        have ca : wr.cell? ⟨b, j, none⟩ = some (.int .u32 (l.getD j 0 : Nat)) := by
          obtain ⟨n, rfl⟩ := hn.out
          exact Blk.cell HB.out j _ (wvals_get l j (by omega))
        have co : wr.cell? ⟨6, j, none⟩ = some (.int .u32 (orderL.getD j 0 : Nat)) := by
          obtain ⟨n, rfl⟩ := hn.out
          exact HO.out j (by omega)
        have bx := HW.out.getD j
        have bo := order_ok.getD j
        by_cases hne : l.getD j 0 = orderL.getD j 0
        · have hdr := drop_eq (l := l) (m := orderL ++ [0]) (k := j) (by omega) (by show j < 9; omega) hd.out (by rw [hne, wgetD_app])
          have HD := Lib.hid hdr
          rw [hne] at ca
          clear hd hdr hne e1 bx
          generalize orderL.getD j 0 = y at *
          go_wp2
          go_quiet (fail)
          go_wp2
          go_roundw
          case rel => exact ⟨j, rfl, by omega, HD, ex_drew hn.out _⟩
          case measure => simp [intOf]
        · have hr := less_run HW.out hl (by omega) hd.out hne
          have HR := Lib.hid hr
          have hgf : (((l.getD j 0 : Nat) : Int) == ((orderL.getD j 0 : Nat) : Int)) = false := by simp only [beq_eq_false_iff_ne]; omega
          clear hd hne e1 hr
          generalize orderL.getD j 0 = y at *
          generalize l.getD j 0 = x at *
          go_wp2
          go_quiet (fail)
          go_wp2
          go_quiet (fail)
          go_wp2
          go_ret
          exact ⟨ret_bool HR.out.symm, ex_drew (ex_drew hn.out _) _⟩
  · have HT := Lib.hid (less_top hl h8)
    go_enter Tryz.func118, Tryz.ntmps118
    have hgf : (((l.getD 8 0 : Nat) : Int) == 0) = false := by simp only [beq_eq_false_iff_ne]; omega
    generalize l.getD 8 0 = x at *
    clear h8
    go_wp2
    go_ret
    exact ⟨ret_bool (decide_eq_false HT.out).symm, 0, rfl⟩
theorem sub_bits {x y c : Nat} (hx : x < 4294967296) (hy : y < 4294967296) (hc : c ≤ 1) : ∃ x' c' : Nat, x' < 4294967296 ∧ c' ≤ 1 ∧ x' + y + c = x + 4294967296 * c' ∧ (y + c ≤ x → c' = 0 ∧ x' = x - y - c) ∧ (x < y + c → c' = 1 ∧ x' = x + 4294967296 - y - c) := by
  rcases Nat.lt_or_ge x (y + c) with h | h
  · exact ⟨x + 4294967296 - y - c, 1, by omega, by omega, by omega, by omega, by omega⟩
  · exact ⟨x - y - c, 0, by omega, by omega, by omega, by omega, by omega⟩
theorem sub_wrap {x y c x' c' : Nat} (hx' : x' < 4294967296) (hc' : c' ≤ 1) (hx : x < 4294967296) (hy : y < 4294967296) (hc : c ≤ 1) (he : x' + y + c = x + 4294967296 * c') :
    IntKind.u64.wrap (IntKind.u64.wrap ((x : Int) - y) - c) / 9223372036854775808 = (c' : Nat) ∧ IntKind.u64.wrap (IntKind.u64.wrap ((x : Int) - y) - c) % 4294967296 = (x' : Nat) := by
  have hw : ∀ z : Int, IntKind.u64.wrap z = z % 18446744073709551616 := fun z => rfl
  rw [hw, hw]
  omega
theorem sub_wrap0 {x y c x' c' : Nat} (hx' : x' < 4294967296) (hc' : c' ≤ 1) (hx : x < 4294967296) (hc : c ≤ 1) (he : x' + y + c = x + 4294967296 * c') (h0 : y = 0) :
    IntKind.u64.wrap ((x : Int) - c) / 9223372036854775808 = (c' : Nat) ∧ IntKind.u64.wrap ((x : Int) - c) % 4294967296 = (x' : Nat) := by
  have hw : ∀ z : Int, IntKind.u64.wrap z = z % 18446744073709551616 := fun z => rfl
  rw [hw]
  omega
theorem order9 (i : Nat) (h : 8 ≤ i) : orderL.getD i 0 = 0 := by
  rw [List.getD_eq_getElem?_getD, List.getElem?_eq_none (by exact h)]; rfl
theorem sub9_end {l l' : List Nat} {c : Nat} (hw : Wd l') (hl : l'.length = 9) (hge : ¬ wv l < Lq) (h : wv l' + wv (orderL.take 9) = wv l + c * 4294967296 ^ 9) (hb : wv l < Lq * 2) : wv l' = wv l - Lq := by
  rw [wv_take_ge orderL 9 (by decide), wv_order] at h
  have h1 := wv_lt hw
  rw [hl] at h1
  have hq : Lq * 2 < 4294967296 ^ 9 := by decide +kernel
  rcases Nat.eq_zero_or_pos c with rfl | hc
  · omega
  · have h2 : 4294967296 ^ 9 ≤ c * 4294967296 ^ 9 := Nat.le_mul_of_pos_left _ hc
    omega

set_option maxHeartbeats 4000000 in
set_option maxRecDepth 100000 in
theorem sub9_ok (l : List Nat) (b : Nat) (w : World) (h : Nm w b l) (ho : Ordr w) (hb0 : 6 ≠ b) (hlt : wv l < Lq * 2) :
    Calls Tryz.prog 108 #[.pointer (some ⟨b, 0, none⟩)] w fun e w' => e = .returned (.tuple #[]) ∧ (∃ l', Nm w' b l' ∧ wv l' = wv l % Lq) ∧ Only b w w' := by
  have H := Lib.hid h
  have HO := Lib.hid ho
  have HL := Lib.hid hlt
  clear h ho hlt
  go_enter Tryz.func108, Tryz.ntmps108
  go_wp2_with fail
  refine (less_ok l b w H.out HO.out).mono ?_
  rintro e w1 ⟨rfl, n1, hn1⟩
  by_cases hc : wv l < Lq
  · rw [decide_eq_true hc]
    have hm : wv l = wv l % Lq := (Nat.mod_eq_of_lt hc).symm
    have HM := Lib.hid hm
    clear hc hm
    go_wp2_with fail
    refine bodyPost_ret (results_none rfl _ _ _) rfl ?_
    subst hn1
    exact ⟨rfl, ⟨l, ⟨H.out.1, H.out.2.1, H.out.2.2⟩, HM.out⟩, (Only.refl _ _).drewN _⟩
  · rw [decide_eq_false hc]
    have HC := Lib.hid hc
    clear hc
    have hon1 : Only b w w1 := by subst hn1; exact (Only.refl _ _).drewN _
    have hnm1 : Nm w1 b l := by subst hn1; exact ⟨H.out.1, H.out.2.1, H.out.2.2⟩
    have HN1 := Lib.hid hnm1
    clear hn1 hnm1
    go_wp2_with fail
    go_loopw [2, 8] (fun vc vi wr => ∃ (i c : Nat) (l' : List Nat), vi = .int .i64 i ∧ vc = .int .u64 c ∧ c ≤ 1 ∧ i ≤ 9 ∧ Hid (Nm wr b l') ∧ Hid (wv l' + wv (orderL.take i) = wv l + c * 4294967296 ^ i) ∧ Only b w wr) (fun _ vi _ => 9 - (intOf vi).toNat)
    case atStart => exact ⟨0, 0, l, rfl, rfl, by omega, by omega, HN1.out, by simp [Hid], hon1⟩
    case round =>
      clear HN1 hon1
      clear n1
      obtain ⟨i, c, l', rfl, rfl, hc, hi, hnm, heq, hon⟩ := hrel
      by_cases hgo : i < 9
      · have hx := hnm.out.1.getD i
        have hy := order_ok.getD i
        obtain ⟨x', c', hx', hc', he, hyes, hno⟩ := sub_bits (x := l'.getD i 0) (y := orderL.getD i 0) (c := c) hx hy hc
        have hst := sub_step (by rw [hnm.out.2.1]; exact hgo) heq.out he
        rw [← wv_take_next] at hst
        have ST := Lib.hid hst
        have ka : wr.cell? ⟨b, i, none⟩ = some (.int .u32 (l'.getD i 0 : Nat)) := Blk.cell hnm.out.2.2 i _ (wvals_get l' i (by rw [hnm.out.2.1]; exact hgo))
        have kf := Blk.free hnm.out.2.2 i
        have NW := Lib.hid (show Nm (wr.setCell ⟨b, i, none⟩ (.int .u32 (x' : Nat))) b (l'.set i x') from ⟨hnm.out.1.set _ _ hx', by rw [List.length_set]; exact hnm.out.2.1, by rw [wvals_set]; exact Blk.set hnm.out.2.2 _ _⟩)
        have hon2 : Only b w (wr.setCell ⟨b, i, none⟩ (.int .u32 (x' : Nat))) := hon.set _ _
        have O9 := Lib.hid (order9 i)
        have ko : i < 8 → wr.cell? ⟨6, i, none⟩ = some (.int .u32 (orderL.getD i 0 : Nat)) := fun h8 => hon.cell (HO.out i h8) hb0
        have SB := Lib.hid (sub_wrap (x := l'.getD i 0) (y := orderL.getD i 0) hx' hc' hx hy hc he)
        have SB0 := Lib.hid (sub_wrap0 (x := l'.getD i 0) (y := orderL.getD i 0) hx' hc' hx hc he)
        clear heq hst he
        generalize l'.getD i 0 = x at *
        generalize orderL.getD i 0 = y at *
        by_cases h8 : i < 8
        · have ko8 := ko h8
          clear ko
          obtain ⟨d1, d2⟩ := SB.out
          clear hno hyes
          go_wp2
          go_roundw
          case rel => exact ⟨i + 1, c', l'.set i x', by go_num, rfl, hc', by omega, NW, ST, hon2⟩
          case measure => simp [intOf]; omega
        · obtain rfl := O9.out (by omega)
          obtain ⟨d1, d2⟩ := SB0.out rfl
          clear ko hno hyes
          go_wp2
          go_roundw
          case rel => exact ⟨i + 1, c', l'.set i x', by go_num, rfl, hc', by omega, NW, ST, hon2⟩
          case measure => simp [intOf]; omega
      · have hi9 : i = 9 := by omega
        subst hi9
        have hq := sub9_end hnm.out.1 hnm.out.2.1 HC.out heq.out HL.out
        have hmod : wv l % Lq = wv l - Lq := by
          have h1 := HC.out
          have h2 := HL.out
          rw [Nat.mod_eq_sub_mod (by omega), Nat.mod_eq_of_lt (by omega)]
        have HQ := Lib.hid (hq.trans hmod.symm)
        clear heq hq hmod
        go_wp2
        refine bodyPost_end (results_none rfl _ _ _) rfl ?_
        exact ⟨rfl, ⟨l', hnm.out, HQ.out⟩, hon⟩
theorem shift_end {l l' : List Nat} {b b0 : Nat} (hl : l.length = 9) (h : wv l' + b * 4294967296 ^ 9 = wv l + wv (l.take 9) + b0) (hlt : wv l < Lq) (hb0 : b0 ≤ 1) : wv l' = 2 * wv l + b0 ∧ wv l' < Lq * 2 := by
  rw [wv_take_ge l 9 (by omega)] at h
  have hq : Lq * 2 + 2 < 4294967296 ^ 9 := by decide +kernel
  rcases Nat.eq_zero_or_pos b with rfl | hc
  · omega
  · have h2 : 4294967296 ^ 9 ≤ b * 4294967296 ^ 9 := Nat.le_mul_of_pos_left _ hc
    omega
theorem u32_or1 (a b : Nat) (ha : a % 2 = 0) (ha2 : a < 4294967296) (hb : b ≤ 1) : bits .or .u32 (a : Int) (b : Int) = ((a + b : Nat) : Int) := by
  rw [u32_or_nat a b ha2 (by omega)]
  have h : 2 ^ 1 * (a / 2) = a := by omega
  have := Nat.two_pow_add_eq_or_of_lt (i := 1) (b := b) (by omega) (a / 2)
  rw [h] at this
  rw [this]

set_option maxHeartbeats 4000000 in
set_option maxRecDepth 100000 in
theorem shift_ok (l : List Nat) (bit b : Nat) (w : World) (h : Nm w b l) (ho : Ordr w) (hb0 : 6 ≠ b) (hlt : wv l < Lq) (hbit : bit ≤ 1) :
    Calls Tryz.prog 93 #[.pointer (some ⟨b, 0, none⟩), .int .u32 bit] w fun e w' => e = .returned (.tuple #[]) ∧ (∃ l', Nm w' b l' ∧ wv l' = (2 * wv l + bit) % Lq) ∧ Only b w w' := by
  have H := Lib.hid h
  have HO := Lib.hid ho
  have HL := Lib.hid hlt
  clear h ho hlt
  go_enter Tryz.func93, Tryz.ntmps93
  go_wp2
  go_loopw [1, 6] (fun vb vi wr => ∃ (i c : Nat) (l' : List Nat), vi = .int .i64 i ∧ vb = .int .u32 c ∧ c ≤ 1 ∧ i ≤ 9 ∧ Hid (Nm wr b l') ∧ Hid (wv l' + c * 4294967296 ^ i = wv l + wv (l.take i) + bit) ∧ Hid (∀ j, i ≤ j → l'.getD j 0 = l.getD j 0) ∧ Only b w wr) (fun _ vi _ => 9 - (intOf vi).toNat)
  case atStart => exact ⟨0, bit, l, rfl, rfl, hbit, by omega, H.out, by simp [Hid], fun _ _ => rfl, Only.refl _ _⟩
  case round =>
    obtain ⟨i, c, l', rfl, rfl, hc, hi, hnm, heq, hsm, hon⟩ := hrel
    by_cases hgo : i < 9
    · have hx := hnm.out.1.getD i
      have ka : wr.cell? ⟨b, i, none⟩ = some (.int .u32 (l'.getD i 0 : Nat)) := Blk.cell hnm.out.2.2 i _ (wvals_get l' i (by rw [hnm.out.2.1]; exact hgo))
      have kf := Blk.free hnm.out.2.2 i
      have hge := hsm.out i (Nat.le_refl _)
      have hst := shift_step (x' := 2 * l'.getD i 0 % 4294967296 + c) (b' := l'.getD i 0 / 2147483648) (by rw [hnm.out.2.1]; exact hgo) heq.out hge (by rw [← hge]; omega)
      have ST := Lib.hid hst
      have SM : Hid (∀ j, i + 1 ≤ j → (l'.set i (2 * l'.getD i 0 % 4294967296 + c)).getD j 0 = l.getD j 0) := fun j hj => by
        rw [List.getD_eq_getElem?_getD, List.getElem?_set_ne (by omega), ← List.getD_eq_getElem?_getD]
        exact hsm.out j (by omega)
      have NW := Lib.hid (show Nm (wr.setCell ⟨b, i, none⟩ (.int .u32 ((2 * l'.getD i 0 % 4294967296 + c : Nat) : Nat))) b (l'.set i (2 * l'.getD i 0 % 4294967296 + c)) from ⟨hnm.out.1.set _ _ (by omega), by rw [List.length_set]; exact hnm.out.2.1, by rw [wvals_set]; exact Blk.set hnm.out.2.2 _ _⟩)
      have hon2 : Only b w (wr.setCell ⟨b, i, none⟩ (.int .u32 ((2 * l'.getD i 0 % 4294967296 + c : Nat) : Nat))) := hon.set _ _
      have OR := Lib.hid (u32_or1 (2 * l'.getD i 0 % 4294967296) c (by omega) (by omega) hc)
      clear heq hst hge hsm
      generalize l'.getD i 0 = x at *
      go_wp2
      (refine still_tail 12 (by kernel_rfl) (by kernel_rfl) ?_; simp only [List.take_succ_cons, List.take_zero, List.drop_succ_cons, List.drop_zero]; repeat (refine wpStill_step (fun K hK => ?_); go_simp; (try go_ints); (try simp only [↓IntWalk.iteOmega, true_and]); (with_reducible apply hK); clear hK K)); refine wpStill_nil ?_
      go_wp2
      rw [show ((x : Int) * 2 % 4294967296) = ((2 * x % 4294967296 : Nat) : Int) from by omega, OR.out]
      go_roundw
      case rel => exact ⟨i + 1, x / 2147483648, l'.set i (2 * x % 4294967296 + c), by go_num, val_int (by omega), by omega, by omega, NW, ST, SM, hon2.drewN 1⟩
      case measure => simp [intOf]; omega
    · have hi9 : i = 9 := by omega
      subst hi9
      have hq := shift_end H.out.2.1 heq.out HL.out hbit
      have HQ := Lib.hid hq
      clear heq hq hsm
      go_wp2_with fail
      refine (sub9_ok l' b wr hnm.out (fun i hi => hon.cell (HO.out i hi) hb0) hb0 HQ.out.2).mono ?_
      rintro e w2 ⟨rfl, ⟨l2, hn2, he2⟩, hon3⟩
      rw [HQ.out.1] at he2
      have HE := Lib.hid he2
      have HN := Lib.hid hn2
      clear he2 hn2
      go_wp2_with fail
      refine bodyPost_end (results_none rfl _ _ _) rfl ?_
      exact ⟨rfl, ⟨l2, HN.out, HE.out⟩, Keeps.trans hon hon3 (fun k _ h => h)⟩
end Go.Proofs.YtkhdhiddhnmdkaaGreatDoor
