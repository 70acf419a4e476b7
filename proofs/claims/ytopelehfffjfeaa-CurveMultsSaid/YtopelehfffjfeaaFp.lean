/-
The field of p elements, and the curve -x^2 + y^2 = 1 + d x^2 y^2 over it: a group.
-/
import Derived.Test.YtopelehfffjfeaaLimb
namespace Go.Proofs.Ytopelehfffjfeaa

instance : NeZero pP := ⟨by decide⟩
abbrev Fp := Fin pP
namespace Fp
theorem val_mul (a b : Fp) : (a * b).val = a.val * b.val % pP := Fin.val_mul ..
theorem zero_or {a b : Fp} (h : a * b = 0) : a = 0 ∨ b = 0 := by
  have h1 : pP ∣ a.val * b.val := Nat.dvd_of_mod_eq_zero (by rw [← val_mul, h]; rfl)
  rcases pP_prm.dvd_mul h1 with h2 | h2
  · exact .inl (Fin.ext (by have := Nat.eq_zero_of_dvd_of_lt h2 a.isLt; exact this))
  · exact .inr (Fin.ext (by have := Nat.eq_zero_of_dvd_of_lt h2 b.isLt; exact this))
theorem mul_ne {a b : Fp} (ha : a ≠ 0) (hb : b ≠ 0) : a * b ≠ 0 := fun h => (zero_or h).elim ha hb
def ofN (n : Nat) : Fp := ⟨n % pP, Nat.mod_lt _ pP_pos⟩
theorem ofN_val (a : Fp) : ofN a.val = a := Fin.ext (Nat.mod_eq_of_lt a.isLt)
theorem ofN_mul (a b : Nat) : ofN (a * b) = ofN a * ofN b := Fin.ext (by rw [val_mul]; exact Nat.mul_mod ..)
theorem ofN_add (a b : Nat) : ofN (a + b) = ofN a + ofN b := Fin.ext (by rw [Fin.val_add]; exact Nat.add_mod ..)
theorem ofN_mod (a : Nat) : ofN (a % pP) = ofN a := Fin.ext (Nat.mod_mod ..)
theorem ofN_pow (a n : Nat) : ofN (a ^ n) = ofN a ^ n := by
  induction n with
  | zero => exact (show ofN 1 = 1 from Fin.ext rfl).trans (by grind)
  | succ n ih => rw [Nat.pow_succ, ofN_mul, ih]; grind
theorem ofN_eq {a b : Nat} : ofN a = ofN b ↔ a % pP = b % pP := ⟨fun h => congrArg Fin.val h, fun h => Fin.ext h⟩
theorem fermat {a : Fp} (ha : a ≠ 0) : a ^ (pP - 1) = 1 := by
  have h1 : ¬ pP ∣ a.val := fun h => ha (Fin.ext (by have := Nat.eq_zero_of_dvd_of_lt h a.isLt; exact this))
  have h2 := pP_prm.fermat h1
  rw [← ofN_val a, ← ofN_pow]
  apply Fin.ext
  show a.val ^ (pP - 1) % pP = 1
  exact h2
theorem fermat' {a : Fp} (ha : a ≠ 0) {n : Nat} (hn : n = pP - 1) : a ^ n = 1 := by
  subst hn
  exact fermat ha
/-- the inverse, as the powers give it -/
def inv (a : Fp) : Fp := a ^ (pP - 2)
theorem mul_inv {a : Fp} (ha : a ≠ 0) : a * inv a = 1 := by
  have h := fermat ha
  have e : pP - 1 = pP - 2 + 1 := by decide
  rw [e] at h
  unfold inv
  generalize pP - 2 = k at h ⊢
  grind
theorem has_inv {a : Fp} (ha : a ≠ 0) : ∃ i, a * i = 1 := ⟨_, mul_inv ha⟩
theorem pw_succ (x : Fp) (n : Nat) : x ^ (n + 1) = x ^ n * x := by grind
theorem inv_zero : inv 0 = 0 := by
  unfold inv
  obtain ⟨k, hk⟩ : ∃ k, pP - 2 = k + 1 := ⟨pP - 3, by decide⟩
  rw [hk, pw_succ]
  generalize (0 : Fp) ^ k = a
  grind
theorem cancel {a b c : Fp} (hc : c ≠ 0) (h : a * c = b * c) : a = b := by
  obtain ⟨i, hi⟩ := has_inv hc
  grind
end Fp
end Go.Proofs.Ytopelehfffjfeaa
