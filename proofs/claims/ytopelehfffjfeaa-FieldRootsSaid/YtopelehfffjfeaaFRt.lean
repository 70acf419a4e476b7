/-
Square roots modulo p: the field's way and the document's way give the same.
-/
import Derived.Test.YtopelehfffjfeaaFLaw2
namespace Go.Proofs.Ytopelehfffjfeaa
open Go.RowKit

namespace Fp
theorem pw_zero (x : Fp) : x ^ 0 = 1 := by grind
theorem pw_add (x : Fp) (m : Nat) : ∀ n, x ^ (m + n) = x ^ m * x ^ n
  | 0 => by rw [pw_zero]; grind
  | n + 1 => by
    rw [show m + (n + 1) = (m + n) + 1 by omega, pw_succ, pw_add x m n, pw_succ]
    generalize x ^ m = a
    generalize x ^ n = b
    grind
theorem mul_pw (x y : Fp) : ∀ n : Nat, (x * y) ^ n = x ^ n * y ^ n
  | 0 => by rw [pw_zero, pw_zero, pw_zero]; grind
  | n + 1 => by
    rw [pw_succ, mul_pw x y n, pw_succ, pw_succ]
    generalize x ^ n = a
    generalize y ^ n = b
    grind
theorem pw_mul (x : Fp) (m : Nat) : ∀ n, x ^ (m * n) = (x ^ m) ^ n
  | 0 => by rw [Nat.mul_zero, pw_zero, pw_zero]
  | n + 1 => by rw [Nat.mul_succ, pw_add, pw_mul x m n, pw_succ]
end Fp
def m1 : Fp := ⟨19681161376707505956807079304988542015446066515923890162744021073123829784752, by decide⟩
def evF (x : Fp) : Fp := if x.val % 2 = 1 then -x else x
def cF (u v : Fp) : Fp := u * (v * v * v) * (u * (v * v * v * (v * v * v) * v)) ^ ((pP - 5) / 8)
def rt (u v : Fp) : Fp × Bool := if cF u v * cF u v * v = u then (evF (cF u v), true) else if cF u v * cF u v * v = -u then (evF (cF u v * m1), true) else (0, false)
def r0F (x : Fp) : Fp := x ^ ((pP + 3) / 8)
def r1F (x : Fp) : Fp := if r0F x * r0F x = x then r0F x else r0F x * m1
def rtR (x : Fp) : Fp × Bool := if r1F x * r1F x = x then (evF (r1F x), true) else (0, false)
theorem m1_val : rM1 = 19681161376707505956807079304988542015446066515923890162744021073123829784752 := by
  have e : rM1 = evenR (pm pP 255 2 (pP / 2 ^ 2)) := by unfold rM1; rw [pm_eq pP 255 _ _ (by decide)]
  rw [e]
  decide +kernel
theorem m1_is : m1.val = rM1 := m1_val.symm
theorem m1_sq : m1 * m1 = -1 := by decide +kernel
theorem m1_even : m1.val % 2 = 0 := by decide +kernel
theorem m1N_exp : expN 20 / 2 ^ (255 - 253) = pP / 2 ^ 2 := by decide
theorem Lm.evF {a : List Nat} {x : Fp} (h : Lm a x.val) : Lm (evenN a) (evF x).val := by
  have e := h.even
  unfold Go.Proofs.Ytopelehfffjfeaa.evF
  by_cases c : x.val % 2 = 1
  · rw [if_pos c] at e ⊢; exact e.cast (val_neg x)
  · rw [if_neg c] at e ⊢; exact e
theorem two_val : (2 : Fp).val = 2 := by decide +kernel
theorem Lm.m1 : Lm m1N m1.val := by
  have h := (Lm.smallN 2 (by decide)).pow (expN 20) (expN_lt 20 (by omega)) 253 (by omega)
  have h2 := h.even
  rw [m1N_exp] at h2
  refine h2.cast ?_
  rw [m1_is]
  unfold rM1 evenR
  rw [show 2 % pP = 2 by decide]
theorem exp5 : expN 24 / 2 ^ (255 - 252) = (pP - 5) / 8 := by decide
theorem Lm.cand {a b : List Nat} {u v : Fp} (ha : Lm a u.val) (hb : Lm b v.val) : Lm (candN a b) (cF u v).val := by
  have h2 : Lm (mulF b b) (v * v).val := (hb.mul hb).cast (val_mul _ _)
  have h3 : Lm (v3N b) (v * v * v).val := (h2.mul hb).cast (val_mul _ _)
  have h6 : Lm (mulF (v3N b) (v3N b)) (v * v * v * (v * v * v)).val := (h3.mul h3).cast (val_mul _ _)
  have h7 : Lm (v7N b) (v * v * v * (v * v * v) * v).val := (h6.mul hb).cast (val_mul _ _)
  have hu7 : Lm (mulF a (v7N b)) (u * (v * v * v * (v * v * v) * v)).val := (ha.mul h7).cast (val_mul _ _)
  have hp := hu7.pow (expN 24) (expN_lt 24 (by omega)) 252 (by omega)
  rw [exp5] at hp
  have hp' : Lm (pwN (mulF a (v7N b)) (expN 24) 252) ((u * (v * v * v * (v * v * v) * v)) ^ ((pP - 5) / 8)).val := hp.cast (val_pow _ _)
  have hu3 : Lm (mulF a (v3N b)) (u * (v * v * v)).val := (ha.mul h3).cast (val_mul _ _)
  exact (hu3.mul hp').cast (val_mul _ _)
theorem Lm.root {a b : List Nat} {u v : Fp} (ha : Lm a u.val) (hb : Lm b v.val) : Lm (rootN a b).1 (rt u v).1.val ∧ (rootN a b).2 = (rt u v).2 := by
  have hc := ha.cand hb
  have hg : Lm (gotN a b) (cF u v * cF u v * v).val := (((hc.mul hc).cast (val_mul _ _)).mul hb).cast (val_mul _ _)
  have hn : Lm (negN a) (-u).val := ha.neg.cast (val_neg u)
  have s1 : sameN (gotN a b) a = decide (cF u v * cF u v * v = u) := (hg.same ha).trans (decide_eq_decide.2 Fin.val_inj)
  have s2 : sameN (gotN a b) (negN a) = decide (cF u v * cF u v * v = -u) := (hg.same hn).trans (decide_eq_decide.2 Fin.val_inj)
  unfold rootN rt
  rw [s1, s2]
  by_cases h1 : cF u v * cF u v * v = u
  · rw [decide_eq_true h1, if_pos rfl, if_pos h1]; exact ⟨hc.evF, rfl⟩
  · rw [decide_eq_false h1, if_neg (by decide), if_neg h1]
    by_cases h2 : cF u v * cF u v * v = -u
    · rw [decide_eq_true h2, if_pos rfl, if_pos h2]; exact ⟨(((hc.mul Lm.m1).cast (val_mul _ _))).evF, rfl⟩
    · rw [decide_eq_false h2, if_neg (by decide), if_neg h2]; exact ⟨Lm.zero, rfl⟩
theorem evenR_val (x : Fp) : evenR x.val = (evF x).val := by
  unfold evenR evF
  split
  · exact val_neg x
  · rfl
theorem r0_val (x : Fp) : rRoot0 x.val = (r0F x).val := val_pow x _
theorem r1_val (x : Fp) : rRoot1 x.val = (r1F x).val := by
  unfold rRoot1 r1F
  rw [r0_val, val_mul, ← m1_is, val_mul]
  by_cases h : r0F x * r0F x = x
  · rw [if_pos h, if_pos (congrArg Fin.val h)]
  · rw [if_neg h, if_neg (fun e => h (Fin.ext e))]
theorem good_val (x : Fp) : rGood x.val = (rtR x).2 := by
  unfold rGood rtR
  rw [r1_val, val_mul]
  by_cases h : r1F x * r1F x = x
  · rw [if_pos h]; exact decide_eq_true (congrArg Fin.val h)
  · rw [if_neg h]; exact decide_eq_false (fun e => h (Fin.ext e))
theorem rtR_pos {x : Fp} (h : r1F x * r1F x = x) : rtR x = (evF (r1F x), true) := if_pos h
theorem rtR_neg {x : Fp} (h : ¬ r1F x * r1F x = x) : rtR x = (0, false) := if_neg h
theorem rRoot_pos {y : Nat} (h : rGood y = true) : rRoot y = evenR (rRoot1 y) := by
  unfold rRoot
  rw [if_pos h]
theorem rRoot_neg {y : Nat} (h : rGood y = false) : rRoot y = 0 := by
  unfold rRoot
  rw [h]
  rfl
theorem root_val (x : Fp) : rRoot x.val = (rtR x).1.val := by
  have g := good_val x
  by_cases h : r1F x * r1F x = x
  · rw [rtR_pos h] at g ⊢
    exact (rRoot_pos g).trans ((congrArg evenR (r1_val x)).trans (evenR_val _))
  · rw [rtR_neg h] at g ⊢
    exact rRoot_neg g
/-- the quotient's power -/
theorem exp_sum (e k : Nat) (h1 : pP - 5 = 8 * k) (h2 : pP + 3 = 8 * e) : e = k + 1 ∧ e + (3 + 7 * k) = pP - 1 := by omega
theorem cF_eq {u v i : Fp} (hi : v * i = 1) : cF u v = r0F (u * i) := by
  have hv : v ≠ 0 := by
    intro e
    rw [e] at hi
    exact absurd hi (by rw [show (0 : Fp) * i = 0 by grind]; decide +kernel)
  obtain ⟨k, hk⟩ : ∃ k, k = (pP - 5) / 8 := ⟨_, rfl⟩
  obtain ⟨e, he⟩ : ∃ e, e = (pP + 3) / 8 := ⟨_, rfl⟩
  have ek := exp_sum e k (hk ▸ (by decide : pP - 5 = 8 * ((pP - 5) / 8))) (he ▸ (by decide : pP + 3 = 8 * ((pP + 3) / 8)))
  have f := Fp.fermat' hv ek.2
  rw [Fp.pw_add, Fp.pw_add, Fp.pw_mul] at f
  unfold cF r0F
  rw [← hk, ← he]
  have e7 : v * v * v * (v * v * v) * v = v ^ 7 := by grind
  have e3 : v * v * v = v ^ 3 := by grind
  rw [e7, e3, Fp.mul_pw u (v ^ 7), Fp.mul_pw u i]
  have hvi : v ^ e * i ^ e = 1 := by
    rw [← Fp.mul_pw, hi]
    clear hk he ek f
    induction e with
    | zero => exact Fp.pw_zero 1
    | succ n ih => rw [Fp.pw_succ, ih]; grind
  have hu : u ^ e = u ^ k * u := by rw [ek.1, Fp.pw_succ]
  rw [hu]
  generalize u ^ k = U at *
  generalize (v ^ 7) ^ k = V at *
  generalize v ^ 3 = W at *
  generalize v ^ e = X at *
  generalize i ^ e = I at *
  grind
theorem evF_sq (x : Fp) : evF x * evF x = x * x := by
  unfold evF
  split
  · grind
  · rfl
theorem evF_even (x : Fp) : (evF x).val % 2 = 0 := by
  unfold evF
  by_cases h : x.val % 2 = 1
  · rw [if_pos h, ← val_neg x]
    have hx := x.isLt
    have e := Nat.mod_eq_of_lt (show pP - x.val < pP by omega)
    rw [e]
    have : pP % 2 = 1 := by decide
    omega
  · rw [if_neg h]; omega
theorem sq_iff {c v u i : Fp} (hi : v * i = 1) : c * c * v = u ↔ c * c = u * i := ⟨fun h => by grind, fun h => by grind⟩
theorem neg_ne {a : Fp} (h : a = -a) : a = 0 := by
  have h2 : 2 * a = 0 := by grind
  exact (Fp.zero_or h2).resolve_left (by decide +kernel)
theorem rt_eq {u v i : Fp} (hi : v * i = 1) : rt u v = rtR (u * i) := by
  unfold rt rtR r1F
  rw [← cF_eq hi]
  have hm := m1_sq
  generalize cF u v = c at *
  by_cases h1 : c * c * v = u
  · have h2 := (sq_iff hi).1 h1
    rw [if_pos h1, if_pos h2, if_pos h2]
  · have h2 : ¬ c * c = u * i := fun e => h1 ((sq_iff hi).2 e)
    rw [if_neg h1, if_neg h2]
    by_cases h3 : c * c * v = -u
    · have h4 : c * m1 * (c * m1) = u * i := by grind
      rw [if_pos h3, if_pos h4]
    · have h4 : ¬ c * m1 * (c * m1) = u * i := fun e => h3 (by grind)
      rw [if_neg h3, if_neg h4]
theorem rt_zero (u : Fp) : rt u 0 = (0, decide (u = 0)) := by
  have hc : ∀ c : Fp, c * c * 0 = 0 := fun c => by grind
  have h0 : cF u 0 = 0 := by
    unfold cF
    generalize (u * (0 * 0 * 0 * (0 * 0 * 0) * 0)) ^ ((pP - 5) / 8) = k
    grind
  unfold rt
  rw [h0, hc]
  by_cases h : u = 0
  · rw [if_pos h.symm, decide_eq_true h]
    have : evF 0 = 0 := by decide +kernel
    rw [this]
  · rw [if_neg (fun e => h e.symm), if_neg (fun e => h (by grind)), decide_eq_false h]
theorem root_neg {c i v u : Fp} (h : c * c * v = -u) (hi : i * i = -1) : c * i * (c * i) * v = u := by grind
/-- what a root is -/
theorem rt_ok {u v : Fp} (h : (rt u v).2 = true) : (rt u v).1 * (rt u v).1 * v = u ∧ (rt u v).1.val % 2 = 0 := by
  have hm := m1_sq
  unfold rt at h ⊢
  generalize cF u v = c at *
  generalize m1 = i at *
  by_cases h1 : c * c * v = u
  · rw [if_pos h1]
    show evF c * evF c * v = u ∧ (evF c).val % 2 = 0
    rw [evF_sq]
    exact ⟨h1, evF_even _⟩
  · rw [if_neg h1] at h ⊢
    by_cases h2 : c * c * v = -u
    · rw [if_pos h2]
      show evF (c * i) * evF (c * i) * v = u ∧ (evF (c * i)).val % 2 = 0
      rw [evF_sq]
      exact ⟨root_neg h2 hm, evF_even _⟩
    · rw [if_neg h2] at h; cases h
end Go.Proofs.Ytopelehfffjfeaa
