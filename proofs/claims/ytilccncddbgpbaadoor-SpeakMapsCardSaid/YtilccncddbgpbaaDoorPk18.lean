/-
Numbers in five limbs of 51 bits: what the field's code computes, in plain numbers.
-/
import Derived.Test.YtilccncddbgpbaaDoorPk17
namespace Go.Proofs.YtilccncddbgpbaaDoor

/-- the modulus -/
def pP : Nat := 2 ^ 255 - 19
theorem pP_eq : pP + 19 = 2 ^ 255 := by decide
theorem pP_prm : Prm pP := prmP
theorem pP_pos : 0 < pP := by decide
theorem pP_big : 2 ^ 254 < pP := by decide
/-- the limbs' number -/
def lv : List Nat → Nat
  | [] => 0
  | d :: r => d + 2 ^ 51 * lv r
@[simp] theorem lv_nil : lv [] = 0 := rfl
@[simp] theorem lv_cons (d : Nat) (r : List Nat) : lv (d :: r) = d + 2 ^ 51 * lv r := rfl
theorem lv_append (a b : List Nat) : lv (a ++ b) = lv a + 2 ^ (51 * a.length) * lv b := by
  induction a with
  | nil => simp
  | cons d r ih =>
    rw [List.cons_append, lv_cons, lv_cons, ih, List.length_cons, Nat.mul_add, Nat.mul_add, Nat.pow_add, Nat.mul_one]
    rw [← Nat.mul_assoc, Nat.mul_comm (2 ^ 51) (2 ^ (51 * r.length))]
    omega
theorem lv_snoc (a : List Nat) (d : Nat) : lv (a ++ [d]) = lv a + 2 ^ (51 * a.length) * d := by
  rw [lv_append]; simp
theorem lv_lt {l : List Nat} (h : ∀ d ∈ l, d < 2 ^ 51) : lv l < 2 ^ (51 * l.length) := by
  induction l with
  | nil => simp
  | cons d r ih =>
    have h1 := h d (by simp)
    have h2 := ih fun x hx => h x (by simp [hx])
    rw [lv_cons, List.length_cons, Nat.mul_add, Nat.mul_one, Nat.pow_add]
    have : 2 ^ 51 * (lv r + 1) ≤ 2 ^ 51 * 2 ^ (51 * r.length) := Nat.mul_le_mul_left _ h2
    rw [Nat.mul_comm (2 ^ (51 * r.length))]
    generalize 2 ^ 51 * 2 ^ (51 * r.length) = X at *
    omega
theorem lv_set (l : List Nat) (i x : Nat) (h : i < l.length) : lv (l.set i x) + 2 ^ (51 * i) * l.getD i 0 = lv l + 2 ^ (51 * i) * x := by
  induction l generalizing i with
  | nil => simp at h
  | cons d r ih =>
    cases i with
    | zero => simp; omega
    | succ i =>
      have := ih i (by simpa using h)
      simp only [List.set_cons_succ, lv_cons, List.getD_cons_succ, Nat.mul_add, Nat.mul_one, Nat.pow_add]
      rw [Nat.mul_comm (2 ^ (51 * i)) (2 ^ 51), Nat.mul_assoc, Nat.mul_assoc]
      generalize 2 ^ (51 * i) * r.getD i 0 = A at *
      generalize 2 ^ (51 * i) * x = B at *
      omega
theorem take_getD (l : List Nat) (i : Nat) (h : i < l.length) : l.take (i + 1) = l.take i ++ [l.getD i 0] := by
  rw [List.take_succ_eq_append_getElem h]; simp [h]

/-! ### carry -/
/-- what goes on to limb i, when c came to limb 0 -/
def cst (c : Nat) (a : List Nat) : Nat → Nat
  | 0 => c
  | i + 1 => (a.getD i 0 + cst c a i) / 2 ^ 51
/-- limb i behind it -/
def crd (c : Nat) (a : List Nat) (i : Nat) : Nat := (a.getD i 0 + cst c a i) % 2 ^ 51
/-- so far -/
def crl (c : Nat) (a : List Nat) (i : Nat) : List Nat := (List.range i).map (crd c a) ++ a.drop i
theorem crl_len (c : Nat) (a : List Nat) (i : Nat) (h : i ≤ a.length) : (crl c a i).length = a.length := by simp [crl]; omega
theorem crl_zero (c : Nat) (a : List Nat) : crl c a 0 = a := by simp [crl]
theorem crl_get (c : Nat) (a : List Nat) (i : Nat) (_h : i < a.length) : (crl c a i).getD i 0 = a.getD i 0 := by
  unfold crl
  rw [List.getD_eq_getElem?_getD, List.getElem?_append_right (by simp)]
  simp [List.getD_eq_getElem?_getD]
theorem crl_set (c : Nat) (a : List Nat) (i : Nat) (h : i < a.length) : (crl c a i).set i (crd c a i) = crl c a (i + 1) := by
  unfold crl
  rw [List.set_append_right _ _ (by simp)]
  rw [List.length_map, List.length_range, Nat.sub_self, List.drop_eq_getElem_cons h, List.set_cons_zero, List.range_succ, List.map_append, List.append_assoc]
  rfl
theorem crl_val (c : Nat) (a : List Nat) : ∀ i, i ≤ a.length → lv ((List.range i).map (crd c a)) + 2 ^ (51 * i) * cst c a i = lv (a.take i) + c
  | 0, _ => by simp [cst]
  | i + 1, h => by
    have ih := crl_val c a i (by omega)
    rw [List.range_succ, List.map_append, List.map_cons, List.map_nil, lv_snoc, take_getD a i (by omega), lv_snoc, List.length_map, List.length_range, List.length_take, Nat.min_eq_left (by omega)]
    have e : crd c a i + 2 ^ 51 * cst c a (i + 1) = a.getD i 0 + cst c a i := by
      unfold crd
      rw [show cst c a (i + 1) = (a.getD i 0 + cst c a i) / 2 ^ 51 from rfl]
      exact Nat.mod_add_div _ _
    have e2 : 2 ^ (51 * (i + 1)) * cst c a (i + 1) = 2 ^ (51 * i) * (2 ^ 51 * cst c a (i + 1)) := by
      rw [Nat.mul_add, Nat.mul_one, Nat.pow_add, Nat.mul_assoc]
    have e3 : 2 ^ (51 * i) * (crd c a i + 2 ^ 51 * cst c a (i + 1)) = 2 ^ (51 * i) * (a.getD i 0 + cst c a i) := by rw [e]
    rw [Nat.mul_add, Nat.mul_add] at e3
    rw [e2]
    omega
theorem crd_lt (c : Nat) (a : List Nat) (i : Nat) : crd c a i < 2 ^ 51 := Nat.mod_lt _ (by decide)
theorem crl_full (c : Nat) (a : List Nat) (h : a.length = 5) : lv (crl c a 5) + 2 ^ 255 * cst c a 5 = lv a + c ∧ (∀ d ∈ crl c a 5, d < 2 ^ 51) := by
  have := crl_val c a 5 (by omega)
  rw [List.take_of_length_le (by omega)] at this
  refine ⟨?_, ?_⟩
  · unfold crl
    rw [List.drop_of_length_le (by omega), List.append_nil]
    exact this
  · intro d hd
    unfold crl at hd
    rw [List.drop_of_length_le (by omega), List.append_nil] at hd
    obtain ⟨i, _, rfl⟩ := List.mem_map.1 hd
    exact crd_lt c a i
theorem cst_top (c : Nat) (a : List Nat) (h : a.length = 5) : cst c a 5 = (lv a + c) / 2 ^ 255 ∧ lv (crl c a 5) = (lv a + c) % 2 ^ 255 := by
  obtain ⟨h1, h2⟩ := crl_full c a h
  have h3 := lv_lt h2
  rw [crl_len c a 5 (by omega), h] at h3
  have h4 : lv (crl c a 5) < 2 ^ 255 := h3
  have e : lv a + c = 2 ^ 255 * cst c a 5 + lv (crl c a 5) := by omega
  rw [e]
  refine ⟨?_, ?_⟩
  · rw [Nat.mul_add_div (by decide), Nat.div_eq_of_lt h4, Nat.add_zero]
  · rw [Nat.mul_add_mod, Nat.mod_eq_of_lt h4]
theorem cst_le (c : Nat) (a : List Nat) (B : Nat) (hc : c ≤ 2 ^ 13) (ha : ∀ d ∈ a, d < 2 ^ 63) : ∀ i, cst c a i ≤ 2 ^ 13
  | 0 => hc
  | i + 1 => by
    have ih := cst_le c a B hc ha i
    have : a.getD i 0 < 2 ^ 63 := by
      rcases Nat.lt_or_ge i a.length with h | h
      · rw [List.getD_eq_getElem?_getD, List.getElem?_eq_getElem h]; exact ha _ (List.getElem_mem h)
      · rw [List.getD_eq_getElem?_getD, List.getElem?_eq_none h]; decide
    show (a.getD i 0 + cst c a i) / 2 ^ 51 ≤ _
    omega
/-- carry, whole -/
def carryN (a : List Nat) : List Nat := (crl 0 a 5).set 0 ((crl 0 a 5).getD 0 0 + cst 0 a 5 * 19)
theorem carryN_len (a : List Nat) (h : a.length = 5) : (carryN a).length = 5 := by
  unfold carryN; rw [List.length_set, crl_len 0 a 5 (by omega), h]
theorem carryN_val (a : List Nat) (h : a.length = 5) : lv (carryN a) + pP * cst 0 a 5 = lv a := by
  have h1 := (crl_full 0 a h).1
  have h2 := lv_set (crl 0 a 5) 0 ((crl 0 a 5).getD 0 0 + cst 0 a 5 * 19) (by rw [crl_len 0 a 5 (by omega), h]; omega)
  have e := pP_eq
  unfold carryN
  simp only [Nat.mul_zero, Nat.pow_zero, Nat.one_mul] at h2
  rw [← e, Nat.add_mul] at h1
  omega
theorem carryN_mod (a : List Nat) (h : a.length = 5) : lv (carryN a) % pP = lv a % pP := by
  rw [← carryN_val a h, Nat.add_mul_mod_self_left]
theorem carryN_lt (a : List Nat) (h : a.length = 5) (d : Nat) (hd : d ∈ carryN a) : d < 2 ^ 51 ∨ d < 2 ^ 51 + cst 0 a 5 * 19 := by
  have h2 := (crl_full 0 a h).2
  unfold carryN at hd
  rcases List.mem_or_eq_of_mem_set hd with h3 | h3
  · exact .inl (h2 d h3)
  · right
    have : (crl 0 a 5).getD 0 0 < 2 ^ 51 := by
      rw [List.getD_eq_getElem?_getD, List.getElem?_eq_getElem (by rw [crl_len 0 a 5 (by omega), h]; omega)]
      exact h2 _ (List.getElem_mem _)
    omega
theorem carryN_52 (a : List Nat) (h : a.length = 5) (ha : ∀ d ∈ a, d < 2 ^ 63) : ∀ d ∈ carryN a, d < 2 ^ 52 := by
  intro d hd
  have := cst_le 0 a 0 (by omega) ha 5
  rcases carryN_lt a h d hd with h1 | h1 <;> omega
/-- what adds up, limb by limb -/
theorem lv_zip (f : Nat → Nat → Nat) (hf : ∀ x y, f x y = x + y) (a b : List Nat) (h : a.length = b.length) : lv (List.zipWith f a b) = lv a + lv b := by
  induction a generalizing b with
  | nil => cases b <;> simp at *
  | cons x r ih =>
    cases b with
    | nil => simp at h
    | cons y s =>
      rw [List.zipWith_cons_cons, lv_cons, lv_cons, lv_cons, ih s (by simpa using h), hf, Nat.mul_add]
      omega

/-! ### the least number -/
theorem cst_one (c : Nat) (a : List Nat) (hc : c ≤ 2) (ha : ∀ d ∈ a, d < 2 ^ 52) : ∀ i, cst c a i ≤ 2
  | 0 => hc
  | i + 1 => by
    have ih := cst_one c a hc ha i
    have : a.getD i 0 < 2 ^ 52 := by
      rcases Nat.lt_or_ge i a.length with h | h
      · rw [List.getD_eq_getElem?_getD, List.getElem?_eq_getElem h]; exact ha _ (List.getElem_mem h)
      · rw [List.getD_eq_getElem?_getD, List.getElem?_eq_none h]; decide
    show (a.getD i 0 + cst c a i) / 2 ^ 51 ≤ _
    omega
theorem carryN_two (a : List Nat) (h : a.length = 5) (ha : ∀ d ∈ a, d < 2 ^ 52) : (∀ d ∈ carryN (carryN a), d < 2 ^ 51) ∧ lv (carryN (carryN a)) < 2 ^ 255 := by
  have hl := carryN_len a h
  have c1 := cst_one 0 a (by omega) ha 5
  -- the first carry leaves little more than 2^255
  have hv : lv (carryN a) < 2 ^ 255 + 38 := by
    have h2 := lv_set (crl 0 a 5) 0 ((crl 0 a 5).getD 0 0 + cst 0 a 5 * 19) (by rw [crl_len 0 a 5 (by omega), h]; omega)
    have h3 := lv_lt (crl_full 0 a h).2
    rw [crl_len 0 a 5 (by omega), h] at h3
    have h4 : lv (crl 0 a 5) < 2 ^ 255 := h3
    unfold carryN
    simp only [Nat.mul_zero, Nat.pow_zero, Nat.one_mul] at h2
    omega
  obtain ⟨t1, t2⟩ := cst_top 0 (carryN a) hl
  obtain ⟨f1, f2⟩ := crl_full 0 (carryN a) hl
  have hlen := crl_len 0 (carryN a) 5 (by omega)
  rw [hl] at hlen
  have hg0 : (crl 0 (carryN a) 5).getD 0 0 ≤ lv (crl 0 (carryN a) 5) := by
    match crl 0 (carryN a) 5, hlen with
    | d :: r, _ => simp
  have hg1 : (crl 0 (carryN a) 5).getD 0 0 < 2 ^ 51 := by
    rw [List.getD_eq_getElem?_getD, List.getElem?_eq_getElem (by omega)]
    exact f2 _ (List.getElem_mem _)
  generalize hc5 : cst 0 (carryN a) 5 = c5 at *
  have hx : ∀ d ∈ carryN (carryN a), d < 2 ^ 51 := by
    intro d hd
    unfold carryN at hd
    rw [show (crl 0 (a := ((crl 0 a 5).set 0 ((crl 0 a 5).getD 0 0 + cst 0 a 5 * 19))) 5) = crl 0 (carryN a) 5 from rfl, show cst 0 ((crl 0 a 5).set 0 ((crl 0 a 5).getD 0 0 + cst 0 a 5 * 19)) 5 = cst 0 (carryN a) 5 from rfl, hc5] at hd
    rcases List.mem_or_eq_of_mem_set hd with h3 | h3
    · exact f2 d h3
    · have : c5 = 0 ∨ c5 = 1 ∧ lv (crl 0 (carryN a) 5) < 38 := by omega
      omega
  refine ⟨hx, ?_⟩
  have := lv_lt hx
  rw [carryN_len _ hl] at this
  exact this
def leastN (a : List Nat) : List Nat :=
  let s := carryN (carryN a)
  crl 0 (s.set 0 (s.getD 0 0 + cst 19 s 5 * 19)) 5
theorem leastN_ok (a : List Nat) (h : a.length = 5) (ha : ∀ d ∈ a, d < 2 ^ 52) : (leastN a).length = 5 ∧ (∀ d ∈ leastN a, d < 2 ^ 51) ∧ lv (leastN a) = lv a % pP := by
  obtain ⟨h1, h2⟩ := carryN_two a h ha
  have hl := carryN_len _ (carryN_len a h)
  have hm : lv (carryN (carryN a)) % pP = lv a % pP := by rw [carryN_mod _ (carryN_len a h), carryN_mod a h]
  unfold leastN
  generalize carryN (carryN a) = s at *
  have h3 := (cst_top 19 s hl).1
  have hset := lv_set s 0 (s.getD 0 0 + cst 19 s 5 * 19) (by omega)
  have hl2 : (s.set 0 (s.getD 0 0 + cst 19 s 5 * 19)).length = 5 := by rw [List.length_set, hl]
  obtain ⟨t1, t2⟩ := cst_top 0 _ hl2
  obtain ⟨f1, f2⟩ := crl_full 0 _ hl2
  refine ⟨by rw [crl_len 0 _ 5 (by omega), hl2], f2, ?_⟩
  dsimp only
  rw [t2, ← hm]
  have e := pP_eq
  simp only [Nat.mul_zero, Nat.pow_zero, Nat.one_mul] at hset
  have hb := pP_big
  by_cases hge : pP ≤ lv s
  · have hc : cst 19 s 5 = 1 := by rw [h3]; omega
    rw [hc] at hset ⊢
    rw [Nat.mod_eq_sub_mod hge, Nat.mod_eq_of_lt (a := lv s - pP) (by omega)]
    omega
  · have hc : cst 19 s 5 = 0 := by rw [h3]; omega
    rw [hc] at hset ⊢
    rw [Nat.mod_eq_of_lt (a := lv s) (b := pP) (by omega)]
    omega
theorem lv_inj : ∀ (a b : List Nat), a.length = b.length → (∀ d ∈ a, d < 2 ^ 51) → (∀ d ∈ b, d < 2 ^ 51) → lv a = lv b → a = b
  | [], [], _, _, _, _ => rfl
  | x :: r, y :: s, hl, ha, hb, he => by
    have hx := ha x (by simp)
    have hy := hb y (by simp)
    simp only [lv_cons] at he
    obtain rfl : x = y := by omega
    rw [lv_inj r s (by simpa using hl) (fun d hd => ha d (by simp [hd])) (fun d hd => hb d (by simp [hd])) (by omega)]
end Go.Proofs.YtilccncddbgpbaaDoor
