/-
Numbers in five limbs of 51 bits: what the field's code computes, in plain numbers.
A product, digits bit by bit, a power by squares: the field's loops in plain numbers.
Words of 64 bits: the library's products and sums, by the shelf's contracts.
-/
import Derived.Test.YtkhdhiddhnmdkaaGreatDoorRows
import Derived.Shelf.Bits.Mul64
import Derived.Shelf.Spec.BitsCarry
import Derived.Outline
import Derived.LoopTactic
import Derived.Test.YtkhdhiddhnmdkaaGreatDoorPk09
import Derived.Test.YtkhdhiddhnmdkaaGreatDoorPk01
namespace Go.Proofs.YtkhdhiddhnmdkaaGreatDoor

/-- the modulus -/
def pP : Nat := 2 ^ 255 - 19
theorem pP_eq : pP + 19 = 2 ^ 255 := by decide
theorem pP_prm : Prm pP := prmP
theorem pP_pos : 0 < pP := by decide
theorem pP_big : 2 ^ 254 < pP := by decide
/-- the limbs' number -/
def lv : List Nat → Nat
  | [] => 0
  | d :: r => d + 2 ^ 51 * lv r
@[simp] theorem lv_nil : lv [] = 0 := rfl
@[simp] theorem lv_cons (d : Nat) (r : List Nat) : lv (d :: r) = d + 2 ^ 51 * lv r := rfl
theorem lv_append (a b : List Nat) : lv (a ++ b) = lv a + 2 ^ (51 * a.length) * lv b := by
  induction a with
  | nil => simp
  | cons d r ih =>
    rw [List.cons_append, lv_cons, lv_cons, ih, List.length_cons, Nat.mul_add, Nat.mul_add, Nat.pow_add, Nat.mul_one]
    rw [← Nat.mul_assoc, Nat.mul_comm (2 ^ 51) (2 ^ (51 * r.length))]
    omega
theorem lv_snoc (a : List Nat) (d : Nat) : lv (a ++ [d]) = lv a + 2 ^ (51 * a.length) * d := by
  rw [lv_append]; simp
theorem lv_lt {l : List Nat} (h : ∀ d ∈ l, d < 2 ^ 51) : lv l < 2 ^ (51 * l.length) := by
  induction l with
  | nil => simp
  | cons d r ih =>
    have h1 := h d (by simp)
    have h2 := ih fun x hx => h x (by simp [hx])
    rw [lv_cons, List.length_cons, Nat.mul_add, Nat.mul_one, Nat.pow_add]
    have : 2 ^ 51 * (lv r + 1) ≤ 2 ^ 51 * 2 ^ (51 * r.length) := Nat.mul_le_mul_left _ h2
    rw [Nat.mul_comm (2 ^ (51 * r.length))]
    generalize 2 ^ 51 * 2 ^ (51 * r.length) = X at *
    omega
theorem lv_set (l : List Nat) (i x : Nat) (h : i < l.length) : lv (l.set i x) + 2 ^ (51 * i) * l.getD i 0 = lv l + 2 ^ (51 * i) * x := by
  induction l generalizing i with
  | nil => simp at h
  | cons d r ih =>
    cases i with
    | zero => simp; omega
    | succ i =>
      have := ih i (by simpa using h)
      simp only [List.set_cons_succ, lv_cons, List.getD_cons_succ, Nat.mul_add, Nat.mul_one, Nat.pow_add]
      rw [Nat.mul_comm (2 ^ (51 * i)) (2 ^ 51), Nat.mul_assoc, Nat.mul_assoc]
      generalize 2 ^ (51 * i) * r.getD i 0 = A at *
      generalize 2 ^ (51 * i) * x = B at *
      omega
theorem take_getD (l : List Nat) (i : Nat) (h : i < l.length) : l.take (i + 1) = l.take i ++ [l.getD i 0] := by
  rw [List.take_succ_eq_append_getElem h]; simp [h]

/-! ### carry -/
/-- what goes on to limb i, when c came to limb 0 -/
def cst (c : Nat) (a : List Nat) : Nat → Nat
  | 0 => c
  | i + 1 => (a.getD i 0 + cst c a i) / 2 ^ 51
/-- limb i behind it -/
def crd (c : Nat) (a : List Nat) (i : Nat) : Nat := (a.getD i 0 + cst c a i) % 2 ^ 51
/-- so far -/
def crl (c : Nat) (a : List Nat) (i : Nat) : List Nat := (List.range i).map (crd c a) ++ a.drop i
theorem crl_len (c : Nat) (a : List Nat) (i : Nat) (h : i ≤ a.length) : (crl c a i).length = a.length := by simp [crl]; omega
theorem crl_zero (c : Nat) (a : List Nat) : crl c a 0 = a := by simp [crl]
theorem crl_get (c : Nat) (a : List Nat) (i : Nat) (_h : i < a.length) : (crl c a i).getD i 0 = a.getD i 0 := by
  unfold crl
  rw [List.getD_eq_getElem?_getD, List.getElem?_append_right (by simp)]
  simp [List.getD_eq_getElem?_getD]
theorem crl_set (c : Nat) (a : List Nat) (i : Nat) (h : i < a.length) : (crl c a i).set i (crd c a i) = crl c a (i + 1) := by
  unfold crl
  rw [List.set_append_right _ _ (by simp)]
  rw [List.length_map, List.length_range, Nat.sub_self, List.drop_eq_getElem_cons h, List.set_cons_zero, List.range_succ, List.map_append, List.append_assoc]
  rfl
theorem crl_val (c : Nat) (a : List Nat) : ∀ i, i ≤ a.length → lv ((List.range i).map (crd c a)) + 2 ^ (51 * i) * cst c a i = lv (a.take i) + c
  | 0, _ => by simp [cst]
  | i + 1, h => by
    have ih := crl_val c a i (by omega)
    rw [List.range_succ, List.map_append, List.map_cons, List.map_nil, lv_snoc, take_getD a i (by omega), lv_snoc, List.length_map, List.length_range, List.length_take, Nat.min_eq_left (by omega)]
    have e : crd c a i + 2 ^ 51 * cst c a (i + 1) = a.getD i 0 + cst c a i := by
      unfold crd
      rw [show cst c a (i + 1) = (a.getD i 0 + cst c a i) / 2 ^ 51 from rfl]
      exact Nat.mod_add_div _ _
    have e2 : 2 ^ (51 * (i + 1)) * cst c a (i + 1) = 2 ^ (51 * i) * (2 ^ 51 * cst c a (i + 1)) := by
      rw [Nat.mul_add, Nat.mul_one, Nat.pow_add, Nat.mul_assoc]
    have e3 : 2 ^ (51 * i) * (crd c a i + 2 ^ 51 * cst c a (i + 1)) = 2 ^ (51 * i) * (a.getD i 0 + cst c a i) := by rw [e]
    rw [Nat.mul_add, Nat.mul_add] at e3
    rw [e2]
    omega
theorem crd_lt (c : Nat) (a : List Nat) (i : Nat) : crd c a i < 2 ^ 51 := Nat.mod_lt _ (by decide)
theorem crl_full (c : Nat) (a : List Nat) (h : a.length = 5) : lv (crl c a 5) + 2 ^ 255 * cst c a 5 = lv a + c ∧ (∀ d ∈ crl c a 5, d < 2 ^ 51) := by
  have := crl_val c a 5 (by omega)
  rw [List.take_of_length_le (by omega)] at this
  refine ⟨?_, ?_⟩
  · unfold crl
    rw [List.drop_of_length_le (by omega), List.append_nil]
    exact this
  · intro d hd
    unfold crl at hd
    rw [List.drop_of_length_le (by omega), List.append_nil] at hd
    obtain ⟨i, _, rfl⟩ := List.mem_map.1 hd
    exact crd_lt c a i
theorem cst_top (c : Nat) (a : List Nat) (h : a.length = 5) : cst c a 5 = (lv a + c) / 2 ^ 255 ∧ lv (crl c a 5) = (lv a + c) % 2 ^ 255 := by
  obtain ⟨h1, h2⟩ := crl_full c a h
  have h3 := lv_lt h2
  rw [crl_len c a 5 (by omega), h] at h3
  have h4 : lv (crl c a 5) < 2 ^ 255 := h3
  have e : lv a + c = 2 ^ 255 * cst c a 5 + lv (crl c a 5) := by omega
  rw [e]
  refine ⟨?_, ?_⟩
  · rw [Nat.mul_add_div (by decide), Nat.div_eq_of_lt h4, Nat.add_zero]
  · rw [Nat.mul_add_mod, Nat.mod_eq_of_lt h4]
theorem cst_le (c : Nat) (a : List Nat) (B : Nat) (hc : c ≤ 2 ^ 13) (ha : ∀ d ∈ a, d < 2 ^ 63) : ∀ i, cst c a i ≤ 2 ^ 13
  | 0 => hc
  | i + 1 => by
    have ih := cst_le c a B hc ha i
    have : a.getD i 0 < 2 ^ 63 := by
      rcases Nat.lt_or_ge i a.length with h | h
      · rw [List.getD_eq_getElem?_getD, List.getElem?_eq_getElem h]; exact ha _ (List.getElem_mem h)
      · rw [List.getD_eq_getElem?_getD, List.getElem?_eq_none h]; decide
    show (a.getD i 0 + cst c a i) / 2 ^ 51 ≤ _
    omega
/-- carry, whole -/
def carryN (a : List Nat) : List Nat := (crl 0 a 5).set 0 ((crl 0 a 5).getD 0 0 + cst 0 a 5 * 19)
theorem carryN_len (a : List Nat) (h : a.length = 5) : (carryN a).length = 5 := by
  unfold carryN; rw [List.length_set, crl_len 0 a 5 (by omega), h]
theorem carryN_val (a : List Nat) (h : a.length = 5) : lv (carryN a) + pP * cst 0 a 5 = lv a := by
  have h1 := (crl_full 0 a h).1
  have h2 := lv_set (crl 0 a 5) 0 ((crl 0 a 5).getD 0 0 + cst 0 a 5 * 19) (by rw [crl_len 0 a 5 (by omega), h]; omega)
  have e := pP_eq
  unfold carryN
  simp only [Nat.mul_zero, Nat.pow_zero, Nat.one_mul] at h2
  rw [← e, Nat.add_mul] at h1
  omega
theorem carryN_mod (a : List Nat) (h : a.length = 5) : lv (carryN a) % pP = lv a % pP := by
  rw [← carryN_val a h, Nat.add_mul_mod_self_left]
theorem carryN_lt (a : List Nat) (h : a.length = 5) (d : Nat) (hd : d ∈ carryN a) : d < 2 ^ 51 ∨ d < 2 ^ 51 + cst 0 a 5 * 19 := by
  have h2 := (crl_full 0 a h).2
  unfold carryN at hd
  rcases List.mem_or_eq_of_mem_set hd with h3 | h3
  · exact .inl (h2 d h3)
  · right
    have : (crl 0 a 5).getD 0 0 < 2 ^ 51 := by
      rw [List.getD_eq_getElem?_getD, List.getElem?_eq_getElem (by rw [crl_len 0 a 5 (by omega), h]; omega)]
      exact h2 _ (List.getElem_mem _)
    omega
theorem carryN_52 (a : List Nat) (h : a.length = 5) (ha : ∀ d ∈ a, d < 2 ^ 63) : ∀ d ∈ carryN a, d < 2 ^ 52 := by
  intro d hd
  have := cst_le 0 a 0 (by omega) ha 5
  rcases carryN_lt a h d hd with h1 | h1 <;> omega
/-- what adds up, limb by limb -/
theorem lv_zip (f : Nat → Nat → Nat) (hf : ∀ x y, f x y = x + y) (a b : List Nat) (h : a.length = b.length) : lv (List.zipWith f a b) = lv a + lv b := by
  induction a generalizing b with
  | nil => cases b <;> simp at *
  | cons x r ih =>
    cases b with
    | nil => simp at h
    | cons y s =>
      rw [List.zipWith_cons_cons, lv_cons, lv_cons, lv_cons, ih s (by simpa using h), hf, Nat.mul_add]
      omega

/-! ### the least number -/
theorem cst_one (c : Nat) (a : List Nat) (hc : c ≤ 2) (ha : ∀ d ∈ a, d < 2 ^ 52) : ∀ i, cst c a i ≤ 2
  | 0 => hc
  | i + 1 => by
    have ih := cst_one c a hc ha i
    have : a.getD i 0 < 2 ^ 52 := by
      rcases Nat.lt_or_ge i a.length with h | h
      · rw [List.getD_eq_getElem?_getD, List.getElem?_eq_getElem h]; exact ha _ (List.getElem_mem h)
      · rw [List.getD_eq_getElem?_getD, List.getElem?_eq_none h]; decide
    show (a.getD i 0 + cst c a i) / 2 ^ 51 ≤ _
    omega
theorem carryN_two (a : List Nat) (h : a.length = 5) (ha : ∀ d ∈ a, d < 2 ^ 52) : (∀ d ∈ carryN (carryN a), d < 2 ^ 51) ∧ lv (carryN (carryN a)) < 2 ^ 255 := by
  have hl := carryN_len a h
  have c1 := cst_one 0 a (by omega) ha 5
  -- the first carry leaves little more than 2^255
  have hv : lv (carryN a) < 2 ^ 255 + 38 := by
    have h2 := lv_set (crl 0 a 5) 0 ((crl 0 a 5).getD 0 0 + cst 0 a 5 * 19) (by rw [crl_len 0 a 5 (by omega), h]; omega)
    have h3 := lv_lt (crl_full 0 a h).2
    rw [crl_len 0 a 5 (by omega), h] at h3
    have h4 : lv (crl 0 a 5) < 2 ^ 255 := h3
    unfold carryN
    simp only [Nat.mul_zero, Nat.pow_zero, Nat.one_mul] at h2
    omega
  obtain ⟨t1, t2⟩ := cst_top 0 (carryN a) hl
  obtain ⟨f1, f2⟩ := crl_full 0 (carryN a) hl
  have hlen := crl_len 0 (carryN a) 5 (by omega)
  rw [hl] at hlen
  have hg0 : (crl 0 (carryN a) 5).getD 0 0 ≤ lv (crl 0 (carryN a) 5) := by
    match crl 0 (carryN a) 5, hlen with
    | d :: r, _ => simp
  have hg1 : (crl 0 (carryN a) 5).getD 0 0 < 2 ^ 51 := by
    rw [List.getD_eq_getElem?_getD, List.getElem?_eq_getElem (by omega)]
    exact f2 _ (List.getElem_mem _)
  generalize hc5 : cst 0 (carryN a) 5 = c5 at *
  have hx : ∀ d ∈ carryN (carryN a), d < 2 ^ 51 := by
    intro d hd
    unfold carryN at hd
    rw [show (crl 0 (a := ((crl 0 a 5).set 0 ((crl 0 a 5).getD 0 0 + cst 0 a 5 * 19))) 5) = crl 0 (carryN a) 5 from rfl, show cst 0 ((crl 0 a 5).set 0 ((crl 0 a 5).getD 0 0 + cst 0 a 5 * 19)) 5 = cst 0 (carryN a) 5 from rfl, hc5] at hd
    rcases List.mem_or_eq_of_mem_set hd with h3 | h3
    · exact f2 d h3
    · have : c5 = 0 ∨ c5 = 1 ∧ lv (crl 0 (carryN a) 5) < 38 := by omega
      omega
  refine ⟨hx, ?_⟩
  have := lv_lt hx
  rw [carryN_len _ hl] at this
  exact this
def leastN (a : List Nat) : List Nat :=
  let s := carryN (carryN a)
  crl 0 (s.set 0 (s.getD 0 0 + cst 19 s 5 * 19)) 5
theorem leastN_ok (a : List Nat) (h : a.length = 5) (ha : ∀ d ∈ a, d < 2 ^ 52) : (leastN a).length = 5 ∧ (∀ d ∈ leastN a, d < 2 ^ 51) ∧ lv (leastN a) = lv a % pP := by
  obtain ⟨h1, h2⟩ := carryN_two a h ha
  have hl := carryN_len _ (carryN_len a h)
  have hm : lv (carryN (carryN a)) % pP = lv a % pP := by rw [carryN_mod _ (carryN_len a h), carryN_mod a h]
  unfold leastN
  generalize carryN (carryN a) = s at *
  have h3 := (cst_top 19 s hl).1
  have hset := lv_set s 0 (s.getD 0 0 + cst 19 s 5 * 19) (by omega)
  have hl2 : (s.set 0 (s.getD 0 0 + cst 19 s 5 * 19)).length = 5 := by rw [List.length_set, hl]
  obtain ⟨t1, t2⟩ := cst_top 0 _ hl2
  obtain ⟨f1, f2⟩ := crl_full 0 _ hl2
  refine ⟨by rw [crl_len 0 _ 5 (by omega), hl2], f2, ?_⟩
  dsimp only
  rw [t2, ← hm]
  have e := pP_eq
  simp only [Nat.mul_zero, Nat.pow_zero, Nat.one_mul] at hset
  have hb := pP_big
  by_cases hge : pP ≤ lv s
  · have hc : cst 19 s 5 = 1 := by rw [h3]; omega
    rw [hc] at hset ⊢
    rw [Nat.mod_eq_sub_mod hge, Nat.mod_eq_of_lt (a := lv s - pP) (by omega)]
    omega
  · have hc : cst 19 s 5 = 0 := by rw [h3]; omega
    rw [hc] at hset ⊢
    rw [Nat.mod_eq_of_lt (a := lv s) (b := pP) (by omega)]
    omega
theorem lv_inj : ∀ (a b : List Nat), a.length = b.length → (∀ d ∈ a, d < 2 ^ 51) → (∀ d ∈ b, d < 2 ^ 51) → lv a = lv b → a = b
  | [], [], _, _, _, _ => rfl
  | x :: r, y :: s, hl, ha, hb, he => by
    have hx := ha x (by simp)
    have hy := hb y (by simp)
    simp only [lv_cons] at he
    obtain rfl : x = y := by omega
    rw [lv_inj r s (by simpa using hl) (fun d hd => ha d (by simp [hd])) (fun d hd => hb d (by simp [hd])) (by omega)]
end Go.Proofs.YtkhdhiddhnmdkaaGreatDoor

namespace Go.Proofs.YtkhdhiddhnmdkaaGreatDoor

theorem pP_two (X : Nat) : 2 ^ 255 * X = 19 * X + pP * X := by rw [← pP_eq, Nat.add_mul]; omega
theorem lv_take_succ (b : List Nat) (k : Nat) (h : k < b.length) : lv (b.take (k + 1)) = lv (b.take k) + 2 ^ (51 * k) * b.getD k 0 := by
  rw [take_getD b k h, lv_snoc, List.length_take, Nat.min_eq_left (by omega)]
/-- where the product of limbs i and k goes, and how often -/
def mj (i k : Nat) : Nat := if i + k < 5 then i + k else i + k - 5
def mf (i k : Nat) : Nat := if i + k < 5 then 1 else 19
theorem mj_lt {i k : Nat} (hi : i < 5) (hk : k < 5) : mj i k < 5 := by unfold mj; split <;> omega
theorem mul_put (T : List Nat) (hT : T.length = 5) (i k x y : Nat) (hi : i < 5) (hk : k < 5) :
    lv (T.set (mj i k) (T.getD (mj i k) 0 + mf i k * x * y)) % pP = (lv T + 2 ^ (51 * i) * x * (2 ^ (51 * k) * y)) % pP := by
  have h := lv_set T (mj i k) (T.getD (mj i k) 0 + mf i k * x * y) (by rw [hT]; exact mj_lt hi hk)
  have e : 2 ^ (51 * i) * x * (2 ^ (51 * k) * y) = 2 ^ (51 * (i + k)) * (x * y) := by
    rw [Nat.mul_add, Nat.pow_add]; simp only [Nat.mul_assoc, Nat.mul_left_comm]
  rw [e]
  rw [Nat.mul_add] at h
  unfold mj mf at *
  by_cases hlt : i + k < 5
  · simp only [hlt, if_true, Nat.one_mul] at *
    congr 1
    omega
  · have hge : 5 ≤ i + k := by omega
    simp only [hlt, if_false] at *
    have e2 : 2 ^ (51 * (i + k)) * (x * y) = 2 ^ 255 * (2 ^ (51 * (i + k - 5)) * (x * y)) := by
      rw [← Nat.mul_assoc (2 ^ 255), ← Nat.pow_add]
      congr 2; omega
    rw [e2, pP_two]
    have e3 : 2 ^ (51 * (i + k - 5)) * (19 * x * y) = 19 * (2 ^ (51 * (i + k - 5)) * (x * y)) := by simp only [Nat.mul_assoc, Nat.mul_left_comm]
    rw [e3] at h
    generalize 2 ^ (51 * (i + k - 5)) * (x * y) = Z at *
    rw [← Nat.add_assoc, Nat.add_mul_mod_self_left]
    congr 1
    omega
/-- what stands behind i limbs of a, and k of b for the next one -/
def MulInv (a b T : List Nat) (i k : Nat) : Prop := T.length = 5 ∧ (∀ t ∈ T, t ≤ (5 * i + k) * 2 ^ 109) ∧ lv T % pP = (lv (a.take i) * lv b + 2 ^ (51 * i) * a.getD i 0 * lv (b.take k)) % pP
theorem MulInv.start (a b : List Nat) : MulInv a b [0, 0, 0, 0, 0] 0 0 := ⟨rfl, by simp, by simp⟩
theorem MulInv.row {a b T : List Nat} {i : Nat} (h : MulInv a b T i 5) (hi : i < a.length) (hb : b.length = 5) : MulInv a b T (i + 1) 0 := by
  refine ⟨h.1, fun t ht => by have := h.2.1 t ht; omega, ?_⟩
  rw [h.2.2, lv_take_succ a i hi, List.take_of_length_le (l := b) (by omega), List.take_zero, lv_nil, Nat.mul_zero, Nat.add_zero, Nat.add_mul]
theorem MulInv.step {a b T : List Nat} {i k : Nat} (h : MulInv a b T i k) (hi : i < 5) (hk : k < 5) (hb : b.length = 5) (ha : ∀ d ∈ a, d < 2 ^ 52) (hbs : ∀ d ∈ b, d < 2 ^ 52) (hal : a.length = 5) :
    MulInv a b (T.set (mj i k) (T.getD (mj i k) 0 + mf i k * a.getD i 0 * b.getD k 0)) i (k + 1) ∧ mf i k * a.getD i 0 < 2 ^ 64 ∧ T.getD (mj i k) 0 + mf i k * a.getD i 0 * b.getD k 0 < 2 ^ 128 := by
  have hx : a.getD i 0 < 2 ^ 52 := by
    rw [List.getD_eq_getElem?_getD, List.getElem?_eq_getElem (by omega)]; exact ha _ (List.getElem_mem _)
  have hy : b.getD k 0 < 2 ^ 52 := by
    rw [List.getD_eq_getElem?_getD, List.getElem?_eq_getElem (by omega)]; exact hbs _ (List.getElem_mem _)
  have hj := mj_lt hi hk
  have ht : T.getD (mj i k) 0 ≤ (5 * i + k) * 2 ^ 109 := by
    rw [List.getD_eq_getElem?_getD, List.getElem?_eq_getElem (by rw [h.1]; exact hj)]; exact h.2.1 _ (List.getElem_mem _)
  have hf : mf i k ≤ 19 := by unfold mf; split <;> omega
  have hfx : mf i k * a.getD i 0 ≤ 19 * 2 ^ 52 := Nat.mul_le_mul hf (by omega)
  have hp : mf i k * a.getD i 0 * b.getD k 0 ≤ 19 * 2 ^ 52 * 2 ^ 52 := Nat.mul_le_mul hfx (by omega)
  refine ⟨⟨by rw [List.length_set]; exact h.1, fun t hm => ?_, ?_⟩, by omega, ?_⟩
  · rcases List.mem_or_eq_of_mem_set hm with h1 | h1
    · exact Nat.le_trans (h.2.1 t h1) (Nat.mul_le_mul_right _ (by omega))
    · rw [← Nat.add_assoc, Nat.add_mul, h1]
      exact Nat.add_le_add ht (Nat.le_trans hp (by decide))
  · rw [mul_put T h.1 i k _ _ hi hk, lv_take_succ b k (by omega), Nat.mul_add, ← Nat.add_assoc, Nat.add_mod, h.2.2, ← Nat.add_mod]
  · have h24 : (5 * i + k) * 2 ^ 109 ≤ 24 * 2 ^ 109 := Nat.mul_le_mul_right _ (by omega)
    exact Nat.lt_of_le_of_lt (Nat.add_le_add (Nat.le_trans ht h24) hp) (by decide)
/-- the limbs of five totals -/
def mulN (T : List Nat) : List Nat :=
  let t := 19 * cst 0 T 5 + (crl 0 T 5).getD 0 0
  carryN (((crl 0 T 5).set 0 (t % 2 ^ 51)).set 1 ((crl 0 T 5).getD 1 0 + t / 2 ^ 51))
theorem cst_112 (a : List Nat) (ha : ∀ d ∈ a, d ≤ 25 * 2 ^ 109) : ∀ i, cst 0 a i ≤ 2 ^ 63
  | 0 => by show 0 ≤ _; omega
  | i + 1 => by
    have ih := cst_112 a ha i
    have : a.getD i 0 ≤ 25 * 2 ^ 109 := by
      rcases Nat.lt_or_ge i a.length with h | h
      · rw [List.getD_eq_getElem?_getD, List.getElem?_eq_getElem h]; exact ha _ (List.getElem_mem h)
      · rw [List.getD_eq_getElem?_getD, List.getElem?_eq_none h]; decide
    show (a.getD i 0 + cst 0 a i) / 2 ^ 51 ≤ _
    omega
theorem mulN_ok (a b T : List Nat) (h : MulInv a b T 5 0) (ha : a.length = 5) :
    (mulN T).length = 5 ∧ (∀ d ∈ mulN T, d < 2 ^ 52) ∧ lv (mulN T) % pP = lv a * lv b % pP ∧ cst 0 T 5 ≤ 2 ^ 63 ∧ (crl 0 T 5).length = 5 ∧ (∀ d ∈ crl 0 T 5, d < 2 ^ 51) := by
  obtain ⟨hl, hT, hv⟩ := h
  have hc := cst_112 T (fun d hd => by have := hT d hd; omega) 5
  obtain ⟨f1, f2⟩ := crl_full 0 T hl
  have hlen := crl_len 0 T 5 (by omega)
  rw [hl] at hlen
  rw [List.take_of_length_le (by omega), List.take_zero, lv_nil, Nat.mul_zero, Nat.add_zero] at hv
  have g0 : (crl 0 T 5).getD 0 0 < 2 ^ 51 := by
    rw [List.getD_eq_getElem?_getD, List.getElem?_eq_getElem (by omega)]; exact f2 _ (List.getElem_mem _)
  have g1 : (crl 0 T 5).getD 1 0 < 2 ^ 51 := by
    rw [List.getD_eq_getElem?_getD, List.getElem?_eq_getElem (by omega)]; exact f2 _ (List.getElem_mem _)
  have s1 := lv_set (crl 0 T 5) 0 ((19 * cst 0 T 5 + (crl 0 T 5).getD 0 0) % 2 ^ 51) (by omega)
  have s2 := lv_set ((crl 0 T 5).set 0 ((19 * cst 0 T 5 + (crl 0 T 5).getD 0 0) % 2 ^ 51)) 1 ((crl 0 T 5).getD 1 0 + (19 * cst 0 T 5 + (crl 0 T 5).getD 0 0) / 2 ^ 51) (by rw [List.length_set]; omega)
  have e1 : ((crl 0 T 5).set 0 ((19 * cst 0 T 5 + (crl 0 T 5).getD 0 0) % 2 ^ 51)).getD 1 0 = (crl 0 T 5).getD 1 0 := by
    rw [List.getD_eq_getElem?_getD, List.getElem?_set_ne (by omega), ← List.getD_eq_getElem?_getD]
  rw [e1] at s2
  have hm := Nat.mod_add_div (19 * cst 0 T 5 + (crl 0 T 5).getD 0 0) (2 ^ 51)
  have hmm : (19 * cst 0 T 5 + (crl 0 T 5).getD 0 0) % 2 ^ 51 < 2 ^ 51 := Nat.mod_lt _ (by decide)
  have hdd : (19 * cst 0 T 5 + (crl 0 T 5).getD 0 0) / 2 ^ 51 < 2 ^ 20 := by omega
  have hall : ∀ d ∈ ((crl 0 T 5).set 0 ((19 * cst 0 T 5 + (crl 0 T 5).getD 0 0) % 2 ^ 51)).set 1 ((crl 0 T 5).getD 1 0 + (19 * cst 0 T 5 + (crl 0 T 5).getD 0 0) / 2 ^ 51), d < 2 ^ 63 := by
    intro d hd
    rcases List.mem_or_eq_of_mem_set hd with h3 | h3
    · rcases List.mem_or_eq_of_mem_set h3 with h4 | h4
      · have := f2 d h4; omega
      · omega
    · omega
  have hl2 : (((crl 0 T 5).set 0 ((19 * cst 0 T 5 + (crl 0 T 5).getD 0 0) % 2 ^ 51)).set 1 ((crl 0 T 5).getD 1 0 + (19 * cst 0 T 5 + (crl 0 T 5).getD 0 0) / 2 ^ 51)).length = 5 := by
    rw [List.length_set, List.length_set, hlen]
  refine ⟨carryN_len _ hl2, carryN_52 _ hl2 hall, ?_, hc, hlen, f2⟩
  rw [← hv]
  show lv (carryN _) % pP = _
  rw [carryN_mod _ hl2]
  have e2 : lv T = lv (((crl 0 T 5).set 0 ((19 * cst 0 T 5 + (crl 0 T 5).getD 0 0) % 2 ^ 51)).set 1 ((crl 0 T 5).getD 1 0 + (19 * cst 0 T 5 + (crl 0 T 5).getD 0 0) / 2 ^ 51)) + pP * cst 0 T 5 := by
    have := pP_two (cst 0 T 5)
    simp only [Nat.mul_zero, Nat.pow_zero, Nat.one_mul, Nat.mul_one] at s1 s2
    generalize (19 * cst 0 T 5 + (crl 0 T 5).getD 0 0) / 2 ^ 51 = D at *
    generalize (19 * cst 0 T 5 + (crl 0 T 5).getD 0 0) % 2 ^ 51 = M at *
    rw [Nat.mul_add] at s2
    omega
  rw [e2, Nat.add_mul_mod_self_left]

/-! ### digits of W bits -/
def digs (W n M : Nat) : List Nat := (List.range n).map fun j => M / 2 ^ (W * j) % 2 ^ W
theorem digs_length (W n M : Nat) : (digs W n M).length = n := by simp [digs]
theorem digs_get (W n M j : Nat) (h : j < n) : (digs W n M)[j]? = some (M / 2 ^ (W * j) % 2 ^ W) := by simp [digs, h]
theorem digs_getD (W n M j : Nat) (h : j < n) : (digs W n M).getD j 0 = M / 2 ^ (W * j) % 2 ^ W := by
  rw [List.getD_eq_getElem?_getD, digs_get W n M j h]; rfl
theorem digs_lt (W n M : Nat) : ∀ d ∈ digs W n M, d < 2 ^ W := by
  intro d hd
  obtain ⟨j, _, rfl⟩ := List.mem_map.1 hd
  exact Nat.mod_lt _ (Nat.pow_pos (by decide))
theorem digs_zero (W n : Nat) : digs W n 0 = List.replicate n 0 := by
  apply List.ext_getElem?
  intro i
  rcases Nat.lt_or_ge i n with h | h
  · rw [digs_get W n 0 i h]; simp [h]
  · rw [List.getElem?_eq_none (by rw [digs_length]; omega), List.getElem?_eq_none (by simp; omega)]
theorem lv_digs (M : Nat) : ∀ n, lv (digs 51 n M) = M % 2 ^ (51 * n)
  | 0 => by simp [digs, Nat.mod_one]
  | n + 1 => by
    have e : digs 51 (n + 1) M = digs 51 n M ++ [M / 2 ^ (51 * n) % 2 ^ 51] := by simp [digs, List.range_succ]
    rw [e, lv_snoc, digs_length, lv_digs M n, Nat.mul_add, Nat.mul_one, Nat.pow_add, Nat.mod_mul]
/-- one more bit -/
theorem digs_bit (W n M b i : Nat) (hW : 0 < W) (hM : M < 2 ^ i) (hb : b < 2) (hi : i < W * n) :
    (digs W n M).set (i / W) ((digs W n M).getD (i / W) 0 + b * 2 ^ (i % W)) = digs W n (M + b * 2 ^ i) ∧ (digs W n M).getD (i / W) 0 < 2 ^ (i % W) := by
  have hj : i / W < n := Nat.div_lt_of_lt_mul hi
  have hdm := Nat.div_add_mod i W
  have hr : i % W < W := Nat.mod_lt _ hW
  have ei : 2 ^ i = 2 ^ (W * (i / W)) * 2 ^ (i % W) := by rw [← Nat.pow_add, hdm]
  have hlow : M / 2 ^ (W * (i / W)) < 2 ^ (i % W) := Nat.div_lt_of_lt_mul (by rw [← ei]; exact hM)
  have hrW : 2 ^ (i % W) * 2 ≤ 2 ^ W := by rw [← Nat.pow_succ]; exact Nat.pow_le_pow_right (by decide) hr
  have hg : (digs W n M).getD (i / W) 0 = M / 2 ^ (W * (i / W)) := by
    rw [digs_getD W n M _ hj, Nat.mod_eq_of_lt (by omega)]
  refine ⟨?_, by rw [hg]; exact hlow⟩
  rw [hg]
  apply List.ext_getElem?
  intro k
  rcases Nat.lt_or_ge k n with hk | hk
  · rw [digs_get W n _ k hk]
    rcases Nat.lt_trichotomy k (i / W) with h | h | h
    · rw [List.getElem?_set_ne (by omega), digs_get W n _ k hk]
      obtain ⟨c, hc⟩ : ∃ c, i = W * (k + 1) + c := ⟨i - W * (k + 1), by
        have : W * (k + 1) ≤ W * (i / W) := Nat.mul_le_mul_left _ h
        omega⟩
      have e2 : b * 2 ^ i = 2 ^ (W * k) * (2 ^ W * (b * 2 ^ c)) := by
        rw [hc, Nat.mul_add, Nat.mul_one, Nat.pow_add, Nat.pow_add]
        simp only [Nat.mul_assoc, Nat.mul_left_comm]
      rw [e2, Nat.add_mul_div_left _ _ (Nat.pow_pos (by decide)), Nat.add_mul_mod_self_left]
    · subst h
      rw [List.getElem?_set_self (by rw [digs_length]; exact hj)]
      congr 1
      have e2 : b * 2 ^ i = 2 ^ (W * (i / W)) * (b * 2 ^ (i % W)) := by
        rw [ei]; simp only [Nat.mul_left_comm]
      have hbb : b * 2 ^ (i % W) ≤ 2 ^ (i % W) := by
        have := Nat.mul_le_mul_right (2 ^ (i % W)) (show b ≤ 1 by omega)
        omega
      rw [e2, Nat.add_mul_div_left _ _ (Nat.pow_pos (by decide)), Nat.mod_eq_of_lt (a := M / 2 ^ (W * (i / W)) + b * 2 ^ (i % W)) (by omega)]
    · rw [List.getElem?_set_ne (by omega), digs_get W n _ k hk]
      have hWk : W * (i / W + 1) ≤ W * k := Nat.mul_le_mul_left _ h
      rw [Nat.mul_add, Nat.mul_one] at hWk
      have hs : 2 ^ (i + 1) ≤ 2 ^ (W * k) := Nat.pow_le_pow_right (by decide) (by omega)
      rw [Nat.pow_succ] at hs
      have hbb : b * 2 ^ i ≤ 2 ^ i := by
        have := Nat.mul_le_mul_right (2 ^ i) (show b ≤ 1 by omega)
        omega
      rw [Nat.div_eq_of_lt (show M < 2 ^ (W * k) by omega), Nat.div_eq_of_lt (show M + b * 2 ^ i < 2 ^ (W * k) by omega)]
  · rw [List.getElem?_eq_none (by rw [List.length_set, digs_length]; exact hk), List.getElem?_eq_none (by rw [digs_length]; exact hk)]
theorem mod_next (M i : Nat) : M % 2 ^ i + M / 2 ^ i % 2 * 2 ^ i = M % 2 ^ (i + 1) := by
  rw [Nat.pow_succ, Nat.mod_mul, Nat.mul_comm (2 ^ i)]
/-- a digit's bit -/
theorem digs_at (W n M i : Nat) (hW : 0 < W) (hi : i < W * n) : (digs W n M).getD (i / W) 0 / 2 ^ (i % W) % 2 = M / 2 ^ i % 2 := by
  have hj : i / W < n := Nat.div_lt_of_lt_mul hi
  have hdm := Nat.div_add_mod i W
  have hr : i % W < W := Nat.mod_lt _ hW
  rw [digs_getD W n M _ hj]
  have e : 2 ^ i = 2 ^ (W * (i / W)) * 2 ^ (i % W) := by rw [← Nat.pow_add, hdm]
  rw [e, ← Nat.div_div_eq_div_mul]
  generalize M / 2 ^ (W * (i / W)) = X
  generalize i % W = r at *
  obtain ⟨c, hc⟩ : ∃ c, W = r + (c + 1) := ⟨W - r - 1, by omega⟩
  have h1 : X % 2 ^ W / 2 ^ r = X / 2 ^ r % 2 ^ (c + 1) := by
    rw [hc, Nat.pow_add, Nat.mod_mul_right_div_self]
  rw [h1, Nat.mod_mod_of_dvd _ ⟨2 ^ c, by rw [Nat.pow_succ, Nat.mul_comm]⟩]

/-! ### powers -/
theorem bit_low (less i : Nat) (h1 : 1 ≤ less) (h2 : less ≤ 256) (hi : i < 8) : (2 ^ 255 - less) / 2 ^ i % 2 = (256 - less) / 2 ^ i % 2 := by
  have e : 2 ^ 255 - less = (256 - less) + 2 ^ i * (2 * (2 ^ (7 - i) * (2 ^ 247 - 1))) := by
    have : 2 ^ i * (2 * (2 ^ (7 - i) * (2 ^ 247 - 1))) = 256 * (2 ^ 247 - 1) := by
      have : 2 ^ i * 2 ^ (7 - i) = 2 ^ 7 := by rw [← Nat.pow_add]; congr 1; omega
      calc 2 ^ i * (2 * (2 ^ (7 - i) * (2 ^ 247 - 1))) = 2 ^ i * 2 ^ (7 - i) * 2 * (2 ^ 247 - 1) := by simp only [Nat.mul_assoc, Nat.mul_left_comm]
        _ = _ := by rw [this]
    rw [this]
    have : 2 ^ 255 = 256 * 2 ^ 247 := by decide
    omega
  rw [e, Nat.add_mul_div_left _ _ (Nat.pow_pos (by decide)), Nat.add_mul_mod_self_left]
theorem bit_high (less i : Nat) (h1 : 1 ≤ less) (h2 : less ≤ 256) (hi : 8 ≤ i) (hi2 : i < 255) : (2 ^ 255 - less) / 2 ^ i % 2 = 1 := by
  obtain ⟨c, rfl⟩ : ∃ c, i = 8 + c := ⟨i - 8, by omega⟩
  rw [Nat.pow_add, ← Nat.div_div_eq_div_mul]
  have e : (2 ^ 255 - less) / 2 ^ 8 = 2 ^ 247 - 1 := by omega
  rw [e]
  have h := Nat.testBit_two_pow_sub_one 247 c
  rw [Nat.testBit_eq_decide_div_mod_eq] at h
  simpa [show c < 247 by omega] using h
theorem pow_bit (x e i : Nat) : x ^ (e / 2 ^ i) = x ^ (e / 2 ^ (i + 1)) * x ^ (e / 2 ^ (i + 1)) * x ^ (e / 2 ^ i % 2) := by
  rw [← Nat.pow_add, ← Nat.pow_add]
  congr 1
  rw [Nat.pow_succ, ← Nat.div_div_eq_div_mul]
  omega
end Go.Proofs.YtkhdhiddhnmdkaaGreatDoor

namespace Go.Proofs.YtkhdhiddhnmdkaaGreatDoor
open Go.RowKit Go.Shelf

def ren264 : Go.Shelf.Ren := ⟨fun | 264 => 71 | n => n, fun | 53 => 67 | 46 => 106 | n => n, fun | n => n⟩
theorem lays264 : Go.Proofs.Lays.n264 Tryz.prog ren264 := {
  mixed := by kernel_rfl
  f264 := Tryz.func71.trans (congrArg some (by kernel_rfl))
  t46 := Tryz.underlying106
  a46 := Tryz.isAgg106
  z46 := Tryz.sizeOf106
  v46 := Tryz.zeroValue106
  t53 := Tryz.underlying67
  a53 := Tryz.isAgg67
  z53 := Tryz.sizeOf67
  v53 := Tryz.zeroValue67 }
def ren25 : Go.Shelf.Ren := ⟨fun | 25 => 70 | n => n, fun | 22 => 67 | n => n, fun | n => n⟩
theorem lays25 : Go.Proofs.Lays7.n25 Tryz.prog ren25 := {
  mixed := by kernel_rfl
  f25 := Tryz.func70.trans (congrArg some (by kernel_rfl))
  t22 := Tryz.underlying67
  a22 := Tryz.isAgg67
  z22 := Tryz.sizeOf67
  v22 := Tryz.zeroValue67
  i22 := by kernel_rfl }
def W64 : Nat := 18446744073709551616
/-- a product in two words -/
theorem mul64 (x y : Nat) (hx : x < 18446744073709551616) (hy : y < 18446744073709551616) (w : World) :
    Calls Tryz.prog 71 #[.int .u64 x, .int .u64 y] w fun e w' => ∃ hi lo : Nat, e = .returned (.tuple #[.int .u64 hi, .int .u64 lo]) ∧ Hid (lo + 18446744073709551616 * hi = x * y) ∧ lo < 18446744073709551616 ∧ hi < 18446744073709551616 ∧ w = w' := by
  refine (Any.bits_Mul64 lays264 x y hx hy w).mono ?_
  rintro e w' ⟨rfl, rfl⟩
  refine ⟨_, _, rfl, Nat.mod_add_div _ _, Nat.mod_lt _ (by omega), ?_, rfl⟩
  exact Nat.div_lt_of_lt_mul (Nat.mul_lt_mul'' hx hy)
/-- a sum with a carry -/
theorem add64 (x y c : Nat) (hx : x < 18446744073709551616) (hy : y < 18446744073709551616) (hc : c ≤ 1) : ∃ s d : Nat, s + 18446744073709551616 * d = x + y + c ∧ s < 18446744073709551616 ∧ d ≤ 1 ∧
    ∀ w, (callFunc 70 #[.int .u64 x, .int .u64 y, .int .u64 c]).run Tryz.prog w = .ok (.value (.tuple #[.int .u64 s, .int .u64 d])) w :=
  ⟨_, _, Nat.mod_add_div _ _, Nat.mod_lt _ (by omega), by omega, fun w => Any7.bits_Add64 lays25 x y c hc w⟩

set_option maxHeartbeats 400000 in
set_option maxRecDepth 100000 in
theorem sumAdd_ok (b o lo hi x y : Nat) (w : World) (hc0 : w.cell? ⟨b, o, none⟩ = some (.int .u64 lo)) (hc1 : w.cell? ⟨b, o + 1, none⟩ = some (.int .u64 hi)) (hf0 : w.frozen? ⟨b, o, none⟩ = false) (hf1 : w.frozen? ⟨b, o + 1, none⟩ = false)
    (hlo : lo < 18446744073709551616) (hhi : hi < 18446744073709551616) (hx : x < 18446744073709551616) (hy : y < 18446744073709551616) (ht : lo + 18446744073709551616 * hi + x * y < 2 ^ 128) :
    Calls Tryz.prog 69 #[.pointer (some ⟨b, o, none⟩), .int .u64 x, .int .u64 y] w fun e w' => e = .returned (.tuple #[]) ∧
      (w.setCell ⟨b, o, none⟩ (.int .u64 ((lo + 18446744073709551616 * hi + x * y) % 18446744073709551616 : Nat))).setCell ⟨b, o + 1, none⟩ (.int .u64 ((lo + 18446744073709551616 * hi + x * y) / 18446744073709551616 : Nat)) = w' := by
  have HT := Lib.hid ht
  clear ht
  go_enter Tryz.func69, Tryz.ntmps69
  go_wp2_with fail
  refine (mul64 x y hx hy _).mono ?_
  rintro e w' ⟨ph, pl, rfl, hp, h1, h2, rfl⟩
  obtain ⟨s, d, e1, hs, hd, hr⟩ := add64 lo pl 0 hlo h1 (by omega)
  have E1 := Lib.hid e1
  clear e1
  obtain ⟨s2, d2, e2, hs2, hd2, hr2⟩ := add64 hi ph d hhi h2 hd
  have E2 := Lib.hid e2
  clear e2
  have hr' : ∀ w, (callFunc 70 #[.int .u64 lo, .int .u64 pl, .int .u64 0]).run Tryz.prog w = .ok (.value (.tuple #[.int .u64 s, .int .u64 d])) w := hr
  clear hr
  go_wp2_with fail
  have hmul : x * y = pl + 18446744073709551616 * ph := hp.out.symm
  have a1 := E1.out
  have a2 := E2.out
  have a3 := HT.out
  rw [hmul] at a3
  have hd20 : d2 = 0 := by omega
  have q1 : (lo + 18446744073709551616 * hi + x * y) % 18446744073709551616 = s := by rw [hmul]; omega
  have q2 : (lo + 18446744073709551616 * hi + x * y) / 18446744073709551616 = s2 := by rw [hmul]; omega
  rw [q1, q2]
  go_end0
  exact ⟨rfl, rfl⟩
end Go.Proofs.YtkhdhiddhnmdkaaGreatDoor
