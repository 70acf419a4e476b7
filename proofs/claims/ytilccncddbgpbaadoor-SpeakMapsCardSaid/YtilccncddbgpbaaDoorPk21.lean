/-
The field's operations on limbs, and the numbers modulo p that they stand for.
The field's sums, differences; Small, Choose.
-/
import Derived.Test.YtilccncddbgpbaaDoorPk19
import Derived.Test.YtilccncddbgpbaaDoorPk20
namespace Go.Proofs.YtilccncddbgpbaaDoor

/-- a is an element whose number is x modulo p -/
structure Lm (a : List Nat) (x : Nat) : Prop where
  len : a.length = 5
  small : ∀ d ∈ a, d < 2 ^ 52
  val : lv a % pP = x
theorem Lm.lt {a : List Nat} {x : Nat} (h : Lm a x) : x < pP := by rw [← h.val]; exact Nat.mod_lt _ pP_pos
theorem Lm.s63 {a : List Nat} {x : Nat} (h : Lm a x) : ∀ d ∈ a, d < 2 ^ 63 := fun d hd => by have := h.small d hd; omega
def addL (a b : List Nat) : List Nat := List.zipWith (· + ·) a b
def addN (a b : List Nat) : List Nat := carryN (addL a b)
theorem addL_len {a b : List Nat} (ha : a.length = 5) (hb : b.length = 5) : (addL a b).length = 5 := by simp [addL, ha, hb]
theorem mem_zip {f : Nat → Nat → Nat} {a b : List Nat} {d : Nat} (h : d ∈ List.zipWith f a b) : ∃ x ∈ a, ∃ y ∈ b, d = f x y := by
  induction a generalizing b with
  | nil => simp at h
  | cons x r ih =>
    cases b with
    | nil => simp at h
    | cons y s =>
      rw [List.zipWith_cons_cons, List.mem_cons] at h
      rcases h with h | h
      · exact ⟨x, by simp, y, by simp, h⟩
      · obtain ⟨x', hx, y', hy, e⟩ := ih h
        exact ⟨x', by simp [hx], y', by simp [hy], e⟩
theorem addL_lt {a b : List Nat} {B C : Nat} (ha : ∀ d ∈ a, d < B) (hb : ∀ d ∈ b, d < C) : ∀ d ∈ addL a b, d < B + C := fun d hd => by
  obtain ⟨x, hx, y, hy, rfl⟩ := mem_zip hd
  have := ha x hx; have := hb y hy; omega
theorem Lm.add {a b : List Nat} {x y : Nat} (ha : Lm a x) (hb : Lm b y) : Lm (addN a b) ((x + y) % pP) := by
  have hl := addL_len ha.len hb.len
  refine ⟨carryN_len _ hl, carryN_52 _ hl (fun d hd => by have := addL_lt ha.small hb.small d hd; omega), ?_⟩
  rw [addN, carryN_mod _ hl, addL, lv_zip _ (fun _ _ => rfl) a b (by rw [ha.len, hb.len]), Nat.add_mod, ha.val, hb.val]
/-- twice p -/
def twoP : List Nat := [4503599627370458, 4503599627370494, 4503599627370494, 4503599627370494, 4503599627370494]
theorem twoP_lv : lv twoP = 2 * pP := by decide
def subL (a b : List Nat) : List Nat := List.zipWith (· - ·) a b
def subN (a b : List Nat) : List Nat := carryN (subL (addL a twoP) (carryN b))
theorem lv_sub : ∀ (a b : List Nat), a.length = b.length → (∀ i, i < a.length → b.getD i 0 ≤ a.getD i 0) → lv (subL a b) + lv b = lv a
  | [], [], _, _ => rfl
  | x :: r, y :: s, hl, h => by
    have h0 := h 0 (by simp)
    have ih := lv_sub r s (by simpa using hl) (fun i hi => by simpa using h (i + 1) (by simpa using hi))
    have e : subL (x :: r) (y :: s) = (x - y) :: subL r s := rfl
    rw [e, lv_cons, lv_cons, lv_cons]
    simp at h0
    omega
/-- a carried element's limbs -/
theorem carry_lim {b : List Nat} (hl : b.length = 5) (hb : ∀ d ∈ b, d < 2 ^ 52) : ∀ d ∈ carryN b, d < 2 ^ 51 + 39 := fun d hd => by
  have := cst_one 0 b (by omega) hb 5
  rcases carryN_lt b hl d hd with h | h <;> omega
theorem sub_ge {a b : List Nat} (ha : a.length = 5) (hl : b.length = 5) (hb : ∀ d ∈ b, d < 2 ^ 52) (i : Nat) (hi : i < 5) : (carryN b).getD i 0 ≤ (addL a twoP).getD i 0 ∧ (carryN b).getD i 0 ≤ 2 ^ 52 := by
  have h1 := carry_lim hl hb
  have hlen := carryN_len b hl
  have h2 : (carryN b).getD i 0 < 2 ^ 51 + 39 := by
    rw [List.getD_eq_getElem?_getD, List.getElem?_eq_getElem (by omega)]; exact h1 _ (List.getElem_mem _)
  have h3 : (addL a twoP).getD i 0 = a.getD i 0 + twoP.getD i 0 := by
    have : i < a.length := by omega
    have : i < twoP.length := by show i < 5; exact hi
    rw [addL, List.getD_eq_getElem?_getD, List.getElem?_zipWith, List.getElem?_eq_getElem (l := a) (by omega), List.getElem?_eq_getElem (l := twoP) (by omega)]
    simp [*]
  have h4 : 4503599627370458 ≤ twoP.getD i 0 := by
    match i, hi with
    | 0, _ => decide
    | 1, _ => decide
    | 2, _ => decide
    | 3, _ => decide
    | 4, _ => decide
  exact ⟨by omega, by omega⟩
theorem Lm.sub {a b : List Nat} {x y : Nat} (ha : Lm a x) (hb : Lm b y) : Lm (subN a b) ((x + (pP - y)) % pP) := by
  have hy := hb.lt
  have hlb := carryN_len b hb.len
  have hla := addL_len ha.len (show twoP.length = 5 from rfl)
  have hl : (subL (addL a twoP) (carryN b)).length = 5 := by simp [subL, hla, hlb]
  have hs : ∀ d ∈ subL (addL a twoP) (carryN b), d < 2 ^ 63 := fun d hd => by
    obtain ⟨u, hu, v, _, rfl⟩ := mem_zip hd
    have : u < 2 ^ 52 + 2 ^ 52 := addL_lt ha.small (fun d hd => by
      simp only [twoP, List.mem_cons, List.not_mem_nil, or_false] at hd
      rcases hd with rfl | rfl | rfl | rfl | rfl <;> decide) u hu
    show u - v < _
    omega
  refine ⟨carryN_len _ hl, carryN_52 _ hl hs, ?_⟩
  have hv := lv_sub (addL a twoP) (carryN b) (by rw [hla, hlb]) (fun i hi => (sub_ge ha.len hb.len hb.small i (by omega)).1)
  have h1 : lv (addL a twoP) = lv a + 2 * pP := by rw [addL, lv_zip _ (fun _ _ => rfl) a twoP (by rw [ha.len]; rfl), twoP_lv]
  rw [h1] at hv
  have h2 := carryN_mod b hb.len
  rw [hb.val] at h2
  rw [subN, carryN_mod _ hl]
  generalize lv (subL (addL a twoP) (carryN b)) = S at *
  generalize lv (carryN b) = Y at *
  have e1 : (S + Y) % pP = x := by rw [hv, Nat.mul_comm, Nat.add_mul_mod_self_left, ha.val]
  have e2 : S % pP = (S + Y + (pP - y)) % pP := by
    have : S + Y + (pP - y) = S + (Y + (pP - y)) := by omega
    have hz : (Y + (pP - y)) % pP = 0 := by rw [← Nat.mod_add_mod, h2, show y + (pP - y) = pP by omega, Nat.mod_self]
    rw [this, Nat.add_mod S, hz, Nat.add_zero, Nat.mod_mod]
  rw [e2, ← Nat.mod_add_mod, e1]
theorem Lm.zero : Lm [0, 0, 0, 0, 0] 0 := ⟨rfl, by decide, by decide⟩
def negN (a : List Nat) : List Nat := subN [0, 0, 0, 0, 0] a
theorem Lm.neg {a : List Nat} {x : Nat} (h : Lm a x) : Lm (negN a) ((pP - x) % pP) := by
  have := Lm.zero.sub h
  rwa [Nat.zero_add] at this
def smallN (n : Nat) : List Nat := [n % 2 ^ 51, n / 2 ^ 51, 0, 0, 0]
theorem Lm.smallN (n : Nat) (h : n < 2 ^ 64) : Lm (smallN n) (n % pP) := by
  refine ⟨rfl, fun d hd => ?_, ?_⟩
  · simp only [Go.Proofs.YtilccncddbgpbaaDoor.smallN, List.mem_cons, List.not_mem_nil, or_false] at hd
    rcases hd with rfl | rfl | rfl | rfl | rfl <;> omega
  · congr 1
    simp only [Go.Proofs.YtilccncddbgpbaaDoor.smallN, lv_cons, lv_nil]
    omega
def ofN (N : Nat) : List Nat := digs 51 5 (N % 2 ^ 255)
theorem Lm.ofN (N : Nat) : Lm (ofN N) (N % 2 ^ 255 % pP) := by
  refine ⟨digs_length _ _ _, fun d hd => by have := digs_lt _ _ _ d hd; omega, ?_⟩
  rw [Go.Proofs.YtilccncddbgpbaaDoor.ofN, lv_digs, Nat.mod_mod]

/-! ### products -/
def mulK (a b : List Nat) (i : Nat) : Nat → List Nat → List Nat
  | 0, T => T
  | k + 1, T => (mulK a b i k T).set (mj i k) ((mulK a b i k T).getD (mj i k) 0 + mf i k * a.getD i 0 * b.getD k 0)
def mulI (a b : List Nat) : Nat → List Nat
  | 0 => [0, 0, 0, 0, 0]
  | i + 1 => mulK a b i 5 (mulI a b i)
def mulF (a b : List Nat) : List Nat := mulN (mulI a b 5)
theorem mulK_inv {a b T : List Nat} {i : Nat} (h : MulInv a b T i 0) (hi : i < 5) (ha : Lm a (lv a % pP)) (hb : Lm b (lv b % pP)) : ∀ k, k ≤ 5 → MulInv a b (mulK a b i k T) i k
  | 0, _ => h
  | k + 1, hk => ((mulK_inv h hi ha hb k (by omega)).step hi (by omega) hb.len ha.small hb.small ha.len).1
theorem mulI_inv {a b : List Nat} (ha : Lm a (lv a % pP)) (hb : Lm b (lv b % pP)) : ∀ i, i ≤ 5 → MulInv a b (mulI a b i) i 0
  | 0, _ => MulInv.start a b
  | i + 1, hi => (mulK_inv (mulI_inv ha hb i (by omega)) (by omega) ha hb 5 (Nat.le_refl _)).row (by rw [ha.len]; omega) hb.len
theorem Lm.own {a : List Nat} {x : Nat} (h : Lm a x) : Lm a (lv a % pP) := ⟨h.len, h.small, rfl⟩
theorem Lm.mul {a b : List Nat} {x y : Nat} (ha : Lm a x) (hb : Lm b y) : Lm (mulF a b) (x * y % pP) := by
  obtain ⟨h1, h2, h3, _⟩ := mulN_ok a b (mulI a b 5) (mulI_inv ha.own hb.own 5 (Nat.le_refl _)) ha.len
  refine ⟨h1, h2, ?_⟩
  rw [mulF, h3, Nat.mul_mod, ha.val, hb.val]

/-! ### powers -/
/-- behind the n highest of 255 bits of E -/
def pwN (a : List Nat) (E : Nat) : Nat → List Nat
  | 0 => smallN 1
  | n + 1 => if E / 2 ^ (254 - n) % 2 = 1 then mulF (mulF (pwN a E n) (pwN a E n)) a else mulF (pwN a E n) (pwN a E n)
theorem Lm.pow {a : List Nat} {x : Nat} (h : Lm a x) (E : Nat) (hE : E < 2 ^ 255) : ∀ n, n ≤ 255 → Lm (pwN a E n) (x ^ (E / 2 ^ (255 - n)) % pP)
  | 0, _ => by
    have e : E / 2 ^ (255 - 0) = 0 := Nat.div_eq_of_lt hE
    rw [e, Nat.pow_zero]
    exact Lm.smallN 1 (by decide)
  | n + 1, hn => by
    have ih := h.pow E hE n (by omega)
    have hs := ih.mul ih
    have e : x ^ (E / 2 ^ (254 - n)) = x ^ (E / 2 ^ (255 - n)) * x ^ (E / 2 ^ (255 - n)) * x ^ (E / 2 ^ (254 - n) % 2) := by
      have := pow_bit x E (254 - n)
      rwa [show 254 - n + 1 = 255 - n by omega] at this
    rw [show 255 - (n + 1) = 254 - n by omega, e]
    rw [← Nat.mul_mod] at hs
    unfold pwN
    split
    · rename_i h1
      rw [h1, Nat.pow_one]
      have := hs.mul h
      rwa [Nat.mod_mul_mod] at this
    · rename_i h1
      rw [show E / 2 ^ (254 - n) % 2 = 0 by omega, Nat.pow_zero, Nat.mul_one]
      exact hs

/-! ### what is asked -/
theorem Lm.least {a : List Nat} {x : Nat} (h : Lm a x) : (leastN a).length = 5 ∧ (∀ d ∈ leastN a, d < 2 ^ 51) ∧ lv (leastN a) = x := by
  obtain ⟨h1, h2, h3⟩ := leastN_ok a h.len h.small
  exact ⟨h1, h2, by rw [h3, h.val]⟩
def oddN (a : List Nat) : Bool := decide ((leastN a).getD 0 0 % 2 = 1)
theorem Lm.odd {a : List Nat} {x : Nat} (h : Lm a x) : oddN a = decide (x % 2 = 1) := by
  obtain ⟨h1, _, h3⟩ := h.least
  rw [← h3]
  unfold oddN
  match leastN a, h1 with
  | d :: r, _ =>
    simp only [List.getD_cons_zero, lv_cons]
    have : (d + 2 ^ 51 * lv r) % 2 = d % 2 := by omega
    exact decide_eq_decide.2 (by rw [this])
def sameN (a b : List Nat) : Bool := decide (leastN a = leastN b)
theorem Lm.same {a b : List Nat} {x y : Nat} (ha : Lm a x) (hb : Lm b y) : sameN a b = decide (x = y) := by
  obtain ⟨h1, h2, h3⟩ := ha.least
  obtain ⟨g1, g2, g3⟩ := hb.least
  unfold sameN
  rw [Bool.eq_iff_iff, decide_eq_true_iff, decide_eq_true_iff]
  constructor
  · intro e; rw [← h3, ← g3, e]
  · intro e; exact lv_inj _ _ (by rw [h1, g1]) h2 g2 (by rw [h3, g3, e])
def zeroN (a : List Nat) : Bool := decide (leastN a = [0, 0, 0, 0, 0])
theorem Lm.zeroN {a : List Nat} {x : Nat} (ha : Lm a x) : zeroN a = decide (x = 0) := by
  obtain ⟨h1, h2, h3⟩ := ha.least
  unfold Go.Proofs.YtilccncddbgpbaaDoor.zeroN
  rw [Bool.eq_iff_iff, decide_eq_true_iff, decide_eq_true_iff]
  constructor
  · intro e; rw [← h3, e]; rfl
  · intro e; exact lv_inj _ _ (by rw [h1]; rfl) h2 (by decide) (by rw [h3, e]; rfl)
/-- p - 2 and its like -/
def expN (less : Nat) : Nat := 2 ^ 255 - less
def invN (a : List Nat) : List Nat := pwN a (expN 21) 255
def evenN (a : List Nat) : List Nat := if oddN a then negN a else a
def m1N : List Nat := evenN (pwN (smallN 2) (expN 20) 253)
def v3N (v : List Nat) : List Nat := mulF (mulF v v) v
def v7N (v : List Nat) : List Nat := mulF (mulF (v3N v) (v3N v)) v
def candN (u v : List Nat) : List Nat := mulF (mulF u (v3N v)) (pwN (mulF u (v7N v)) (expN 24) 252)
def gotN (u v : List Nat) : List Nat := mulF (mulF (candN u v) (candN u v)) v
def rootN (u v : List Nat) : List Nat × Bool :=
  if sameN (gotN u v) u then (evenN (candN u v), true)
  else if sameN (gotN u v) (negN u) then (evenN (mulF (candN u v) m1N), true)
  else ([0, 0, 0, 0, 0], false)
theorem Lm.even {a : List Nat} {x : Nat} (h : Lm a x) : Lm (evenN a) (if x % 2 = 1 then (pP - x) % pP else x) := by
  unfold evenN
  rw [h.odd]
  by_cases e : x % 2 = 1
  · simp only [e, decide_true, if_true]; exact h.neg
  · simp only [e, decide_false, if_false, Bool.false_eq_true]; exact h
end Go.Proofs.YtilccncddbgpbaaDoor

namespace Go.Proofs.YtilccncddbgpbaaDoor
open Go.RowKit

/-- two lists joined limb by limb, so far -/
def sofar (f : Nat → Nat → Nat) (a b : List Nat) (i : Nat) : List Nat := (List.zipWith f a b).take i ++ a.drop i
theorem sofar_zero (f : Nat → Nat → Nat) (a b : List Nat) : sofar f a b 0 = a := by simp [sofar]
theorem sofar_end (f : Nat → Nat → Nat) (a b : List Nat) (ha : a.length = 5) (hb : b.length = 5) : sofar f a b 5 = List.zipWith f a b := by
  unfold sofar
  rw [List.take_of_length_le (by simp [ha, hb]), List.drop_of_length_le (by omega), List.append_nil]
theorem sofar_len (f : Nat → Nat → Nat) (a b : List Nat) (ha : a.length = 5) (hb : b.length = 5) (i : Nat) (hi : i ≤ 5) : (sofar f a b i).length = 5 := by
  simp [sofar, ha, hb]; omega
theorem sofar_get (f : Nat → Nat → Nat) (a b : List Nat) (ha : a.length = 5) (hb : b.length = 5) (i : Nat) (hi : i < 5) : (sofar f a b i).getD i 0 = a.getD i 0 := by
  unfold sofar
  have hl : ((List.zipWith f a b).take i).length = i := by simp [ha, hb]; omega
  rw [List.getD_eq_getElem?_getD, List.getElem?_append_right (by omega), hl, Nat.sub_self, List.getElem?_drop, Nat.add_zero, ← List.getD_eq_getElem?_getD]
theorem sofar_set (f : Nat → Nat → Nat) (a b : List Nat) (ha : a.length = 5) (hb : b.length = 5) (i : Nat) (hi : i < 5) : (sofar f a b i).set i (f (a.getD i 0) (b.getD i 0)) = sofar f a b (i + 1) := by
  have hl : ((List.zipWith f a b).take i).length = i := by simp [ha, hb]; omega
  have hz : i < (List.zipWith f a b).length := by simp [ha, hb]; omega
  unfold sofar
  rw [List.set_append_right _ _ (by omega), hl, Nat.sub_self, List.drop_eq_getElem_cons (show i < a.length by omega), List.set_cons_zero, List.take_succ_eq_append_getElem hz, List.append_assoc]
  congr 2
  rw [List.getElem_zipWith]
  simp [List.getD_eq_getElem?_getD, ha, hb, hi]

set_option maxHeartbeats 2000000 in
set_option maxRecDepth 100000 in
theorem el_small_ok (n : Nat) (w : World) (hn : n < 18446744073709551616) :
    Calls Tryd.prog 8 #[.int .u64 n] w fun e w' => e = .returned (ev (smallN n)) ∧ Below w.heap.size w w' := by
  have Z0 := Lib.hid (Blk.new w 30 (uvals zero5))
  have B0 := below1 w (.cells (uvals zero5).toArray 30)
  have hm := and_mask n hn
  have L5 : Hid ((smallN n).length = 5) := rfl
  have EQ : Hid ((uvals (smallN n)).toArray = #[.int .u64 ((n : Int) % 2251799813685248), .int .u64 ((n : Int) / 2251799813685248), .int .u64 0, .int .u64 0, .int .u64 0]) := by
    show (uvals (smallN n)).toArray = _
    simp [uvals, smallN]
  go_enter Tryd.func8, Tryd.ntmps8
  go_upto_region 1 with fail
  refine wp_gen (fun w0 => Hid (Blk w0 w.heap.size 30 (uvals zero5)) ∧ Below w.heap.size w w0) ⟨Z0, B0⟩ ?_
  rintro w0 ⟨Z1, B1⟩
  clear Z0 B0
  go_wp2_with (refine store_el Z1 hz5 L5 rfl rfl rfl (congrArg Value.agg EQ.out.symm) ?_)
  exact ret_el rfl (Z1.out.setRow _) L5.out rfl rfl ⟨rfl, below_row B1 _ _ (Nat.le_refl _)⟩

set_option maxHeartbeats 2000000 in
set_option maxRecDepth 100000 in
theorem el_choose_ok (c : Bool) (a b : List Nat) (w : World) (ha : a.length = 5) (hb : b.length = 5) :
    Calls Tryd.prog 55 #[.bool c, ev a, ev b] w fun e w' => e = .returned (ev (if c then a else b)) ∧ Below w.heap.size w w' := by
  have HA := Lib.hid ha
  have HB := Lib.hid hb
  clear ha hb
  show Calls _ _ #[.bool c, .agg (uvals a).toArray, .agg (uvals b).toArray] _ _
  cases c
  all_goals
    go_enter Tryd.func55, Tryd.ntmps55
    go_upto_region 1 with fail
    refine wp_gen (fun w0 => Hid (Blk w0 w.heap.size 30 (uvals a)) ∧ Hid (Blk w0 (w.heap.size + 1) 30 (uvals b)) ∧ Hid (Blk w0 (w.heap.size + 2) 30 (uvals zero5)) ∧ Below w.heap.size w w0) ⟨((Blk.new w _ (uvals a)).alloc _).alloc _, (Blk.new2 _ _ _ (uvals b)).alloc _, Blk.new3 _ _ _ _ (uvals zero5), below3 _ _ _ _⟩ ?_
    rintro w0 ⟨P0, P1, P2, BB⟩
    go_wp2_with (first | refine load_el P0 HA rfl rfl rfl ?_ | refine load_el P1 HB rfl rfl rfl ?_ | refine store_el P2 hz5 HA rfl rfl rfl rfl ?_ | refine store_el P2 hz5 HB rfl rfl rfl rfl ?_)
    first
      | exact ret_el rfl (P2.out.setRow _) HA.out rfl rfl ⟨rfl, below_row BB _ _ (by omega)⟩
      | exact ret_el rfl (P2.out.setRow _) HB.out rfl rfl ⟨rfl, below_row BB _ _ (by omega)⟩

set_option maxHeartbeats 2000000 in
set_option maxRecDepth 100000 in
theorem el_add_ok (a b : List Nat) (w : World) (hl : a.length = 5) (hm : b.length = 5) (ha : ∀ d ∈ a, d < 2 ^ 52) (hb : ∀ d ∈ b, d < 2 ^ 52) :
    Calls Tryd.prog 9 #[ev a, ev b] w fun e w' => e = .returned (ev (addN a b)) ∧ Below w.heap.size w w' := by
  have HL := Lib.hid hl
  have HM := Lib.hid hm
  have HA := Lib.hid ha
  have HB := Lib.hid hb
  clear hl hm ha hb
  show Calls _ _ #[.agg (uvals a).toArray, .agg (uvals b).toArray] _ _
  go_enter Tryd.func9, Tryd.ntmps9
  go_upto_region 1 with fail
  refine wp_gen (fun w0 => Hid (Blk w0 w.heap.size 30 (uvals a)) ∧ Hid (Blk w0 (w.heap.size + 1) 30 (uvals b)) ∧ Hid (Blk w0 (w.heap.size + 2) 30 (uvals zero5)) ∧ Below w.heap.size w w0) ⟨((Blk.new w _ (uvals a)).alloc _).alloc _, (Blk.new2 _ _ _ (uvals b)).alloc _, Blk.new3 _ _ _ _ (uvals zero5), below3 _ _ _ _⟩ ?_
  rintro w0 ⟨P0, P1, P2, BB⟩
  go_wp2_with fail
  go_loopw [6] (fun vi wr => ∃ i : Nat, i ≤ 5 ∧ vi = .int .i64 i ∧ Hid (Blk wr w.heap.size 30 (uvals (sofar (· + ·) a b i))) ∧ Hid (Blk wr (w.heap.size + 1) 30 (uvals b)) ∧ Hid (Blk wr (w.heap.size + 2) 30 (uvals zero5)) ∧ Below w.heap.size w wr) (fun vi _ => 5 - (intOf vi).toNat)
  case atStart => exact ⟨0, by omega, rfl, by rw [sofar_zero]; exact P0, P1, P2, BB⟩
  case round =>
    clear P0 P1 P2 BB
    obtain ⟨i, hi, rfl, p0, p1, p2, hB⟩ := hrel
    by_cases hgo : i < 5
    · have c0 := p0.out.ucell i (by rw [sofar_len _ _ _ HL.out HM.out i (by omega)]; exact hgo)
      rw [sofar_get _ _ _ HL.out HM.out i hgo] at c0
      have f0 := p0.out.free i
      have c1 := p1.out.ucell i (by rw [HM.out]; exact hgo)
      have hx : a.getD i 0 < 4503599627370496 := mem_lt (by decide) HA.out i
      have hy : b.getD i 0 < 4503599627370496 := mem_lt (by decide) HB.out i
      have N0 : Hid (∀ n, Blk ((wr.setCell ⟨w.heap.size, i, none⟩ (.int .u64 (a.getD i 0 + b.getD i 0 : Nat))).drewN n) w.heap.size 30 (uvals (sofar (· + ·) a b (i + 1)))) := fun n => by
        rw [← sofar_set _ _ _ HL.out HM.out i hgo]; exact (p0.out.uset i _).drew n
      have N1 : Hid (∀ n, Blk ((wr.setCell ⟨w.heap.size, i, none⟩ (.int .u64 (a.getD i 0 + b.getD i 0 : Nat))).drewN n) (w.heap.size + 1) 30 (uvals b)) := fun n => (p1.out.far (by omega) _ _).drew n
      have N2 : Hid (∀ n, Blk ((wr.setCell ⟨w.heap.size, i, none⟩ (.int .u64 (a.getD i 0 + b.getD i 0 : Nat))).drewN n) (w.heap.size + 2) 30 (uvals zero5)) := fun n => (p2.out.far (by omega) _ _).drew n
      have N3 := below_set' hB w.heap.size i (.int .u64 (a.getD i 0 + b.getD i 0 : Nat)) (Nat.le_refl _)
      generalize a.getD i 0 = x at *
      generalize b.getD i 0 = y at *
      clear p0 p1 p2 hB
      go_wp2_with fail
      (refine still_tail 11 (by kernel_rfl) (by kernel_rfl) ?_; simp only [List.take_succ_cons, List.take_zero, List.drop_succ_cons, List.drop_zero]; repeat (refine wpStill_step (fun K hK => ?_); go_simp; (try go_ints); (try simp only [↓IntWalk.iteOmega, true_and]); (with_reducible apply hK); clear hK K)); refine wpStill_nil ?_
      go_wp2_with fail
      go_roundw
      case rel => exact ⟨i + 1, by omega, by go_num, N0.out 1, N1.out 1, N2.out 1, below_drewN N3 1⟩
      case measure => simp [intOf]; omega
    · obtain rfl : i = 5 := by omega
      have LL : Hid ((sofar (· + ·) a b 5).length = 5) := sofar_len _ _ _ HL.out HM.out 5 (by omega)
      have EE : Hid (sofar (· + ·) a b 5 = addL a b) := sofar_end _ _ _ HL.out HM.out
      have HS : Hid (∀ d ∈ sofar (· + ·) a b 5, d < 2 ^ 63) := fun d hd => by
        rw [EE.out] at hd
        have := addL_lt HA.out HB.out d hd; omega
      go_wp2_with (refine load_el p0 LL rfl rfl rfl ?_)
      refine (el_carry_ok (sofar (· + ·) a b 5) _ LL.out HS.out).mono ?_
      rintro e w1 ⟨rfl, b1⟩
      unfold ev
      have L5 : Hid ((carryN (sofar (· + ·) a b 5)).length = 5) := carryN_len _ LL.out
      have Z := Lib.hid (p2.out.below b1 p2.out.lt)
      have BZ := hB.trans (b1.mono hB.size)
      go_wp2_with (refine store_el Z hz5 L5 rfl rfl rfl rfl ?_)
      exact ret_el rfl (Z.out.setRow _) L5.out rfl rfl ⟨by rw [EE.out]; rfl, below_row BZ _ _ (by omega)⟩
end Go.Proofs.YtilccncddbgpbaaDoor
