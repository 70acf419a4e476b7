/-
The field's operations on limbs, and the numbers modulo p that they stand for.
-/
import Derived.Test.YtopelehfffjfeaaLimbMul
namespace Go.Proofs.Ytopelehfffjfeaa

/-- a is an element whose number is x modulo p -/
structure Lm (a : List Nat) (x : Nat) : Prop where
  len : a.length = 5
  small : ∀ d ∈ a, d < 2 ^ 52
  val : lv a % pP = x
theorem Lm.lt {a : List Nat} {x : Nat} (h : Lm a x) : x < pP := by rw [← h.val]; exact Nat.mod_lt _ pP_pos
theorem Lm.s63 {a : List Nat} {x : Nat} (h : Lm a x) : ∀ d ∈ a, d < 2 ^ 63 := fun d hd => by have := h.small d hd; omega
def addL (a b : List Nat) : List Nat := List.zipWith (· + ·) a b
def addN (a b : List Nat) : List Nat := carryN (addL a b)
theorem addL_len {a b : List Nat} (ha : a.length = 5) (hb : b.length = 5) : (addL a b).length = 5 := by simp [addL, ha, hb]
theorem mem_zip {f : Nat → Nat → Nat} {a b : List Nat} {d : Nat} (h : d ∈ List.zipWith f a b) : ∃ x ∈ a, ∃ y ∈ b, d = f x y := by
  induction a generalizing b with
  | nil => simp at h
  | cons x r ih =>
    cases b with
    | nil => simp at h
    | cons y s =>
      rw [List.zipWith_cons_cons, List.mem_cons] at h
      rcases h with h | h
      · exact ⟨x, by simp, y, by simp, h⟩
      · obtain ⟨x', hx, y', hy, e⟩ := ih h
        exact ⟨x', by simp [hx], y', by simp [hy], e⟩
theorem addL_lt {a b : List Nat} {B C : Nat} (ha : ∀ d ∈ a, d < B) (hb : ∀ d ∈ b, d < C) : ∀ d ∈ addL a b, d < B + C := fun d hd => by
  obtain ⟨x, hx, y, hy, rfl⟩ := mem_zip hd
  have := ha x hx; have := hb y hy; omega
theorem Lm.add {a b : List Nat} {x y : Nat} (ha : Lm a x) (hb : Lm b y) : Lm (addN a b) ((x + y) % pP) := by
  have hl := addL_len ha.len hb.len
  refine ⟨carryN_len _ hl, carryN_52 _ hl (fun d hd => by have := addL_lt ha.small hb.small d hd; omega), ?_⟩
  rw [addN, carryN_mod _ hl, addL, lv_zip _ (fun _ _ => rfl) a b (by rw [ha.len, hb.len]), Nat.add_mod, ha.val, hb.val]
/-- twice p -/
def twoP : List Nat := [4503599627370458, 4503599627370494, 4503599627370494, 4503599627370494, 4503599627370494]
theorem twoP_lv : lv twoP = 2 * pP := by decide
def subL (a b : List Nat) : List Nat := List.zipWith (· - ·) a b
def subN (a b : List Nat) : List Nat := carryN (subL (addL a twoP) (carryN b))
theorem lv_sub : ∀ (a b : List Nat), a.length = b.length → (∀ i, i < a.length → b.getD i 0 ≤ a.getD i 0) → lv (subL a b) + lv b = lv a
  | [], [], _, _ => rfl
  | x :: r, y :: s, hl, h => by
    have h0 := h 0 (by simp)
    have ih := lv_sub r s (by simpa using hl) (fun i hi => by simpa using h (i + 1) (by simpa using hi))
    have e : subL (x :: r) (y :: s) = (x - y) :: subL r s := rfl
    rw [e, lv_cons, lv_cons, lv_cons]
    simp at h0
    omega
/-- a carried element's limbs -/
theorem carry_lim {b : List Nat} (hl : b.length = 5) (hb : ∀ d ∈ b, d < 2 ^ 52) : ∀ d ∈ carryN b, d < 2 ^ 51 + 39 := fun d hd => by
  have := cst_one 0 b (by omega) hb 5
  rcases carryN_lt b hl d hd with h | h <;> omega
theorem sub_ge {a b : List Nat} (ha : a.length = 5) (hl : b.length = 5) (hb : ∀ d ∈ b, d < 2 ^ 52) (i : Nat) (hi : i < 5) : (carryN b).getD i 0 ≤ (addL a twoP).getD i 0 ∧ (carryN b).getD i 0 ≤ 2 ^ 52 := by
  have h1 := carry_lim hl hb
  have hlen := carryN_len b hl
  have h2 : (carryN b).getD i 0 < 2 ^ 51 + 39 := by
    rw [List.getD_eq_getElem?_getD, List.getElem?_eq_getElem (by omega)]; exact h1 _ (List.getElem_mem _)
  have h3 : (addL a twoP).getD i 0 = a.getD i 0 + twoP.getD i 0 := by
    have : i < a.length := by omega
    have : i < twoP.length := by show i < 5; exact hi
    rw [addL, List.getD_eq_getElem?_getD, List.getElem?_zipWith, List.getElem?_eq_getElem (l := a) (by omega), List.getElem?_eq_getElem (l := twoP) (by omega)]
    simp [*]
  have h4 : 4503599627370458 ≤ twoP.getD i 0 := by
    match i, hi with
    | 0, _ => decide
    | 1, _ => decide
    | 2, _ => decide
    | 3, _ => decide
    | 4, _ => decide
  exact ⟨by omega, by omega⟩
theorem Lm.sub {a b : List Nat} {x y : Nat} (ha : Lm a x) (hb : Lm b y) : Lm (subN a b) ((x + (pP - y)) % pP) := by
  have hy := hb.lt
  have hlb := carryN_len b hb.len
  have hla := addL_len ha.len (show twoP.length = 5 from rfl)
  have hl : (subL (addL a twoP) (carryN b)).length = 5 := by simp [subL, hla, hlb]
  have hs : ∀ d ∈ subL (addL a twoP) (carryN b), d < 2 ^ 63 := fun d hd => by
    obtain ⟨u, hu, v, _, rfl⟩ := mem_zip hd
    have : u < 2 ^ 52 + 2 ^ 52 := addL_lt ha.small (fun d hd => by
      simp only [twoP, List.mem_cons, List.not_mem_nil, or_false] at hd
      rcases hd with rfl | rfl | rfl | rfl | rfl <;> decide) u hu
    show u - v < _
    omega
  refine ⟨carryN_len _ hl, carryN_52 _ hl hs, ?_⟩
  have hv := lv_sub (addL a twoP) (carryN b) (by rw [hla, hlb]) (fun i hi => (sub_ge ha.len hb.len hb.small i (by omega)).1)
  have h1 : lv (addL a twoP) = lv a + 2 * pP := by rw [addL, lv_zip _ (fun _ _ => rfl) a twoP (by rw [ha.len]; rfl), twoP_lv]
  rw [h1] at hv
  have h2 := carryN_mod b hb.len
  rw [hb.val] at h2
  rw [subN, carryN_mod _ hl]
  generalize lv (subL (addL a twoP) (carryN b)) = S at *
  generalize lv (carryN b) = Y at *
  have e1 : (S + Y) % pP = x := by rw [hv, Nat.mul_comm, Nat.add_mul_mod_self_left, ha.val]
  have e2 : S % pP = (S + Y + (pP - y)) % pP := by
    have : S + Y + (pP - y) = S + (Y + (pP - y)) := by omega
    have hz : (Y + (pP - y)) % pP = 0 := by rw [← Nat.mod_add_mod, h2, show y + (pP - y) = pP by omega, Nat.mod_self]
    rw [this, Nat.add_mod S, hz, Nat.add_zero, Nat.mod_mod]
  rw [e2, ← Nat.mod_add_mod, e1]
theorem Lm.zero : Lm [0, 0, 0, 0, 0] 0 := ⟨rfl, by decide, by decide⟩
def negN (a : List Nat) : List Nat := subN [0, 0, 0, 0, 0] a
theorem Lm.neg {a : List Nat} {x : Nat} (h : Lm a x) : Lm (negN a) ((pP - x) % pP) := by
  have := Lm.zero.sub h
  rwa [Nat.zero_add] at this
def smallN (n : Nat) : List Nat := [n % 2 ^ 51, n / 2 ^ 51, 0, 0, 0]
theorem Lm.smallN (n : Nat) (h : n < 2 ^ 64) : Lm (smallN n) (n % pP) := by
  refine ⟨rfl, fun d hd => ?_, ?_⟩
  · simp only [Go.Proofs.Ytopelehfffjfeaa.smallN, List.mem_cons, List.not_mem_nil, or_false] at hd
    rcases hd with rfl | rfl | rfl | rfl | rfl <;> omega
  · congr 1
    simp only [Go.Proofs.Ytopelehfffjfeaa.smallN, lv_cons, lv_nil]
    omega
def ofN (N : Nat) : List Nat := digs 51 5 (N % 2 ^ 255)
theorem Lm.ofN (N : Nat) : Lm (ofN N) (N % 2 ^ 255 % pP) := by
  refine ⟨digs_length _ _ _, fun d hd => by have := digs_lt _ _ _ d hd; omega, ?_⟩
  rw [Go.Proofs.Ytopelehfffjfeaa.ofN, lv_digs, Nat.mod_mod]

/-! ### products -/
def mulK (a b : List Nat) (i : Nat) : Nat → List Nat → List Nat
  | 0, T => T
  | k + 1, T => (mulK a b i k T).set (mj i k) ((mulK a b i k T).getD (mj i k) 0 + mf i k * a.getD i 0 * b.getD k 0)
def mulI (a b : List Nat) : Nat → List Nat
  | 0 => [0, 0, 0, 0, 0]
  | i + 1 => mulK a b i 5 (mulI a b i)
def mulF (a b : List Nat) : List Nat := mulN (mulI a b 5)
theorem mulK_inv {a b T : List Nat} {i : Nat} (h : MulInv a b T i 0) (hi : i < 5) (ha : Lm a (lv a % pP)) (hb : Lm b (lv b % pP)) : ∀ k, k ≤ 5 → MulInv a b (mulK a b i k T) i k
  | 0, _ => h
  | k + 1, hk => ((mulK_inv h hi ha hb k (by omega)).step hi (by omega) hb.len ha.small hb.small ha.len).1
theorem mulI_inv {a b : List Nat} (ha : Lm a (lv a % pP)) (hb : Lm b (lv b % pP)) : ∀ i, i ≤ 5 → MulInv a b (mulI a b i) i 0
  | 0, _ => MulInv.start a b
  | i + 1, hi => (mulK_inv (mulI_inv ha hb i (by omega)) (by omega) ha hb 5 (Nat.le_refl _)).row (by rw [ha.len]; omega) hb.len
theorem Lm.own {a : List Nat} {x : Nat} (h : Lm a x) : Lm a (lv a % pP) := ⟨h.len, h.small, rfl⟩
theorem Lm.mul {a b : List Nat} {x y : Nat} (ha : Lm a x) (hb : Lm b y) : Lm (mulF a b) (x * y % pP) := by
  obtain ⟨h1, h2, h3, _⟩ := mulN_ok a b (mulI a b 5) (mulI_inv ha.own hb.own 5 (Nat.le_refl _)) ha.len
  refine ⟨h1, h2, ?_⟩
  rw [mulF, h3, Nat.mul_mod, ha.val, hb.val]

/-! ### powers -/
/-- behind the n highest of 255 bits of E -/
def pwN (a : List Nat) (E : Nat) : Nat → List Nat
  | 0 => smallN 1
  | n + 1 => if E / 2 ^ (254 - n) % 2 = 1 then mulF (mulF (pwN a E n) (pwN a E n)) a else mulF (pwN a E n) (pwN a E n)
theorem Lm.pow {a : List Nat} {x : Nat} (h : Lm a x) (E : Nat) (hE : E < 2 ^ 255) : ∀ n, n ≤ 255 → Lm (pwN a E n) (x ^ (E / 2 ^ (255 - n)) % pP)
  | 0, _ => by
    have e : E / 2 ^ (255 - 0) = 0 := Nat.div_eq_of_lt hE
    rw [e, Nat.pow_zero]
    exact Lm.smallN 1 (by decide)
  | n + 1, hn => by
    have ih := h.pow E hE n (by omega)
    have hs := ih.mul ih
    have e : x ^ (E / 2 ^ (254 - n)) = x ^ (E / 2 ^ (255 - n)) * x ^ (E / 2 ^ (255 - n)) * x ^ (E / 2 ^ (254 - n) % 2) := by
      have := pow_bit x E (254 - n)
      rwa [show 254 - n + 1 = 255 - n by omega] at this
    rw [show 255 - (n + 1) = 254 - n by omega, e]
    rw [← Nat.mul_mod] at hs
    unfold pwN
    split
    · rename_i h1
      rw [h1, Nat.pow_one]
      have := hs.mul h
      rwa [Nat.mod_mul_mod] at this
    · rename_i h1
      rw [show E / 2 ^ (254 - n) % 2 = 0 by omega, Nat.pow_zero, Nat.mul_one]
      exact hs

/-! ### what is asked -/
theorem Lm.least {a : List Nat} {x : Nat} (h : Lm a x) : (leastN a).length = 5 ∧ (∀ d ∈ leastN a, d < 2 ^ 51) ∧ lv (leastN a) = x := by
  obtain ⟨h1, h2, h3⟩ := leastN_ok a h.len h.small
  exact ⟨h1, h2, by rw [h3, h.val]⟩
def oddN (a : List Nat) : Bool := decide ((leastN a).getD 0 0 % 2 = 1)
theorem Lm.odd {a : List Nat} {x : Nat} (h : Lm a x) : oddN a = decide (x % 2 = 1) := by
  obtain ⟨h1, _, h3⟩ := h.least
  rw [← h3]
  unfold oddN
  match leastN a, h1 with
  | d :: r, _ =>
    simp only [List.getD_cons_zero, lv_cons]
    have : (d + 2 ^ 51 * lv r) % 2 = d % 2 := by omega
    exact decide_eq_decide.2 (by rw [this])
def sameN (a b : List Nat) : Bool := decide (leastN a = leastN b)
theorem Lm.same {a b : List Nat} {x y : Nat} (ha : Lm a x) (hb : Lm b y) : sameN a b = decide (x = y) := by
  obtain ⟨h1, h2, h3⟩ := ha.least
  obtain ⟨g1, g2, g3⟩ := hb.least
  unfold sameN
  rw [Bool.eq_iff_iff, decide_eq_true_iff, decide_eq_true_iff]
  constructor
  · intro e; rw [← h3, ← g3, e]
  · intro e; exact lv_inj _ _ (by rw [h1, g1]) h2 g2 (by rw [h3, g3, e])
def zeroN (a : List Nat) : Bool := decide (leastN a = [0, 0, 0, 0, 0])
theorem Lm.zeroN {a : List Nat} {x : Nat} (ha : Lm a x) : zeroN a = decide (x = 0) := by
  obtain ⟨h1, h2, h3⟩ := ha.least
  unfold Go.Proofs.Ytopelehfffjfeaa.zeroN
  rw [Bool.eq_iff_iff, decide_eq_true_iff, decide_eq_true_iff]
  constructor
  · intro e; rw [← h3, e]; rfl
  · intro e; exact lv_inj _ _ (by rw [h1]; rfl) h2 (by decide) (by rw [h3, e]; rfl)
/-- p - 2 and its like -/
def expN (less : Nat) : Nat := 2 ^ 255 - less
def invN (a : List Nat) : List Nat := pwN a (expN 21) 255
def evenN (a : List Nat) : List Nat := if oddN a then negN a else a
def m1N : List Nat := evenN (pwN (smallN 2) (expN 20) 253)
def v3N (v : List Nat) : List Nat := mulF (mulF v v) v
def v7N (v : List Nat) : List Nat := mulF (mulF (v3N v) (v3N v)) v
def candN (u v : List Nat) : List Nat := mulF (mulF u (v3N v)) (pwN (mulF u (v7N v)) (expN 24) 252)
def gotN (u v : List Nat) : List Nat := mulF (mulF (candN u v) (candN u v)) v
def rootN (u v : List Nat) : List Nat × Bool :=
  if sameN (gotN u v) u then (evenN (candN u v), true)
  else if sameN (gotN u v) (negN u) then (evenN (mulF (candN u v) m1N), true)
  else ([0, 0, 0, 0, 0], false)
theorem Lm.even {a : List Nat} {x : Nat} (h : Lm a x) : Lm (evenN a) (if x % 2 = 1 then (pP - x) % pP else x) := by
  unfold evenN
  rw [h.odd]
  by_cases e : x % 2 = 1
  · simp only [e, decide_true, if_true]; exact h.neg
  · simp only [e, decide_false, if_false, Bool.false_eq_true]; exact h
end Go.Proofs.Ytopelehfffjfeaa
