/-
The curve -x^2 + y^2 = 1 + d x^2 y^2 over the field of p elements: its points are a group.
-/
import Derived.Test.YtilccncddbgpbaaDoorPk28
namespace Go.Proofs.YtilccncddbgpbaaDoor

namespace Ed
def d : Fp := ⟨(pP - 121665) * pm pP 255 121666 (pP - 2) % pP, Nat.mod_lt _ pP_pos⟩
def i1 : Fp := ⟨pm pP 255 2 ((pP - 1) / 4), by decide +kernel⟩
theorem i1_sq : i1 * i1 = -1 := by decide +kernel
theorem d_def : d * 121666 = -121665 := by decide +kernel
theorem two_ne : (2 : Fp) ≠ 0 := by decide +kernel
theorem n66 : (121666 : Fp) ≠ 0 := by decide +kernel
theorem d_ne : d ≠ 0 := by decide +kernel
theorem d_pow : pm pP 255 d.val ((pP - 1) / 2) = pP - 1 := by decide +kernel
theorem d_no_square (s : Fp) : s * s ≠ d := by
  intro h
  have hs : s ≠ 0 := by
    intro e; rw [e] at h
    exact d_ne (by grind)
  obtain ⟨k, hk⟩ : ∃ k, k = (pP - 1) / 2 := ⟨_, rfl⟩
  have e : pP - 1 = 2 * k := hk ▸ (by decide : pP - 1 = 2 * ((pP - 1) / 2))
  have kb : k < 2 ^ 255 := hk ▸ (by decide : (pP - 1) / 2 < 2 ^ 255)
  have h2 : pm pP 255 d.val k = pP - 1 := hk ▸ d_pow
  clear hk
  have f := Fp.fermat hs
  have h1 : d ^ k = 1 := by
    rw [e] at f
    rw [← h, ← f]
    clear f e kb h2
    induction k with
    | zero => grind
    | succ k ih =>
      rw [show 2 * (k + 1) = 2 * k + 1 + 1 by omega]
      grind
  rw [pm_eq pP 255 _ _ kb] at h2
  have h3 : (Fp.ofN (d.val ^ k)).val = (1 : Fp).val := congrArg Fin.val ((Fp.ofN_pow d.val k).trans (show Fp.ofN d.val ^ k = 1 by rw [Fp.ofN_val]; exact h1))
  have h4 : (Fp.ofN (d.val ^ k)).val = pP - 1 := h2
  rw [h4] at h3
  exact absurd h3 (by decide +kernel)
theorem sq_frac {a q r v u e : Fp} (A : a * a = e * q * q * (r * r)) (hv : q * v = 1) (hu : r * u = 1) : (a * v * u) * (a * v * u) = e := by grind
/-- on the curve -/
def On (x y : Fp) : Prop := d * x * x * y * y = y * y - x * x - 1
theorem complete {x1 y1 x2 y2 e : Fp} (h1 : On x1 y1) (h2 : On x2 y2) (he : e * e = 1) : d * x1 * x2 * y1 * y2 ≠ e := by
  unfold On at h1 h2
  intro h
  have hi := i1_sq
  generalize i1 = i at hi
  have hx : x1 * y1 ≠ 0 := by
    intro h0
    have : e = 0 := by grind
    rw [this] at he
    exact absurd he (by decide +kernel)
  obtain ⟨v, hv⟩ := Fp.has_inv hx
  have A : (i * x1 + e * y1) * (i * x1 + e * y1) = d * (x1 * y1) * (x1 * y1) * ((i * x2 + y2) * (i * x2 + y2)) := by grind
  have B : (i * x1 - e * y1) * (i * x1 - e * y1) = d * (x1 * y1) * (x1 * y1) * ((i * x2 - y2) * (i * x2 - y2)) := by grind
  by_cases ha : i * x2 + y2 = 0
  · by_cases hb : i * x2 - y2 = 0
    · have h3 : 2 * y2 = 0 := by grind
      have h4 : y2 = 0 := (Fp.zero_or h3).resolve_left two_ne
      have : e = 0 := by rw [← h, h4]; grind
      rw [this] at he
      exact absurd he (by decide +kernel)
    · obtain ⟨u, hu⟩ := Fp.has_inv hb
      exact d_no_square _ (sq_frac B hv hu)
  · obtain ⟨u, hu⟩ := Fp.has_inv ha
    exact d_no_square _ (sq_frac A hv hu)
theorem plus_ne {x1 y1 x2 y2 : Fp} (h1 : On x1 y1) (h2 : On x2 y2) : 1 + d * x1 * x2 * y1 * y2 ≠ 0 := fun h => complete (e := -1) h1 h2 (by grind) (by grind)
theorem minus_ne {x1 y1 x2 y2 : Fp} (h1 : On x1 y1) (h2 : On x2 y2) : 1 - d * x1 * x2 * y1 * y2 ≠ 0 := fun h => complete (e := 1) h1 h2 (by grind) (by grind)

structure Pt where
  x : Fp
  y : Fp
  on : On x y
theorem Pt.ext {P Q : Pt} (hx : P.x = Q.x) (hy : P.y = Q.y) : P = Q := by
  cases P; cases Q
  simp only at hx hy
  subst hx; subst hy; rfl
def sx (x1 y1 x2 y2 : Fp) : Fp := (x1 * y2 + x2 * y1) * Fp.inv (1 + d * x1 * x2 * y1 * y2)
def sy (x1 y1 x2 y2 : Fp) : Fp := (y1 * y2 + x1 * x2) * Fp.inv (1 - d * x1 * x2 * y1 * y2)
theorem on_num {d x1 y1 x2 y2 : Fp} (h1 : d * x1 * x1 * y1 * y1 = y1 * y1 - x1 * x1 - 1) (h2 : d * x2 * x2 * y2 * y2 = y2 * y2 - x2 * x2 - 1) :
    d * ((x1 * y2 + x2 * y1) * (x1 * y2 + x2 * y1)) * ((y1 * y2 + x1 * x2) * (y1 * y2 + x1 * x2)) =
      ((y1 * y2 + x1 * x2) * (1 + d * x1 * x2 * y1 * y2)) * ((y1 * y2 + x1 * x2) * (1 + d * x1 * x2 * y1 * y2)) - ((x1 * y2 + x2 * y1) * (1 - d * x1 * x2 * y1 * y2)) * ((x1 * y2 + x2 * y1) * (1 - d * x1 * x2 * y1 * y2))
       - ((1 + d * x1 * x2 * y1 * y2) * (1 - d * x1 * x2 * y1 * y2)) * ((1 + d * x1 * x2 * y1 * y2) * (1 - d * x1 * x2 * y1 * y2)) := by grind
theorem on_frac {d a b p m i j : Fp} (hp : p * i = 1) (hm : m * j = 1) (h : d * (a * a) * (b * b) = (b * p) * (b * p) - (a * m) * (a * m) - (p * m) * (p * m)) :
    d * (a * i) * (a * i) * (b * j) * (b * j) = (b * j) * (b * j) - (a * i) * (a * i) - 1 := by grind
theorem on_sum {x1 y1 x2 y2 : Fp} (h1 : On x1 y1) (h2 : On x2 y2) : On (sx x1 y1 x2 y2) (sy x1 y1 x2 y2) := by
  have hp := Fp.mul_inv (plus_ne h1 h2)
  have hm := Fp.mul_inv (minus_ne h1 h2)
  exact on_frac hp hm (on_num h1 h2)
def add (P Q : Pt) : Pt := ⟨sx P.x P.y Q.x Q.y, sy P.x P.y Q.x Q.y, on_sum P.on Q.on⟩
theorem add_x (P Q : Pt) : (add P Q).x * (1 + d * P.x * Q.x * P.y * Q.y) = P.x * Q.y + Q.x * P.y := by
  have hp := Fp.mul_inv (plus_ne P.on Q.on)
  show (P.x * Q.y + Q.x * P.y) * Fp.inv (1 + d * P.x * Q.x * P.y * Q.y) * _ = _
  generalize 1 + d * P.x * Q.x * P.y * Q.y = k at *
  generalize Fp.inv k = i at *
  grind
theorem add_y (P Q : Pt) : (add P Q).y * (1 - d * P.x * Q.x * P.y * Q.y) = P.y * Q.y + P.x * Q.x := by
  have hp := Fp.mul_inv (minus_ne P.on Q.on)
  show (P.y * Q.y + P.x * Q.x) * Fp.inv (1 - d * P.x * Q.x * P.y * Q.y) * _ = _
  generalize 1 - d * P.x * Q.x * P.y * Q.y = k at *
  generalize Fp.inv k = i at *
  grind
theorem eq_add {P Q R : Pt} (hx : R.x * (1 + d * P.x * Q.x * P.y * Q.y) = P.x * Q.y + Q.x * P.y) (hy : R.y * (1 - d * P.x * Q.x * P.y * Q.y) = P.y * Q.y + P.x * Q.x) : R = add P Q :=
  Pt.ext (Fp.cancel (plus_ne P.on Q.on) (hx.trans (add_x P Q).symm)) (Fp.cancel (minus_ne P.on Q.on) (hy.trans (add_y P Q).symm))
theorem add_comm (P Q : Pt) : add P Q = add Q P := by
  apply eq_add
  · have := add_x P Q; grind
  · have := add_y P Q; grind
theorem on_O (e z o : Fp) (hz : z = 0) (ho : o = 1) : e * z * z * o * o = o * o - z * z - 1 := by grind
def O : Pt := ⟨0, 1, on_O d 0 1 rfl rfl⟩
def negP (P : Pt) : Pt := ⟨-P.x, P.y, by have := P.on; unfold On at *; grind⟩
theorem add_O (P : Pt) : add P O = P := by
  symm; apply eq_add
  · show P.x * (1 + d * P.x * 0 * P.y * 1) = P.x * 1 + 0 * P.y
    grind
  · show P.y * (1 - d * P.x * 0 * P.y * 1) = P.y * 1 + P.x * 0
    grind
theorem O_add (P : Pt) : add O P = P := (add_comm _ _).trans (add_O P)
theorem add_neg (P : Pt) : add P (negP P) = O := by
  symm; apply eq_add
  · show (0 : Fp) * _ = P.x * P.y + -P.x * P.y
    grind
  · have h := P.on
    unfold On at h
    show (1 : Fp) * (1 - d * P.x * -P.x * P.y * P.y) = P.y * P.y + P.x * -P.x
    grind
theorem ax_num {d x1 y1 x2 y2 x3 y3 : Fp} (h1 : d * x1 * x1 * y1 * y1 = y1 * y1 - x1 * x1 - 1) (h2 : d * x2 * x2 * y2 * y2 = y2 * y2 - x2 * x2 - 1) (h3 : d * x3 * x3 * y3 * y3 = y3 * y3 - x3 * x3 - 1) :
    ((x1*y2+x2*y1)*(1-d*x1*x2*y1*y2)*y3+(y1*y2+x1*x2)*(1+d*x1*x2*y1*y2)*x3)*((1-(d*x2*x3*y2*y3)*(d*x2*x3*y2*y3)) + d*(x2*y3+x3*y2)*(y2*y3+x2*x3)*x1*y1)
      = ((x2*y3+x3*y2)*(1-d*x2*x3*y2*y3)*y1+(y2*y3+x2*x3)*(1+d*x2*x3*y2*y3)*x1)*((1-(d*x1*x2*y1*y2)*(d*x1*x2*y1*y2)) + d*(x1*y2+x2*y1)*(y1*y2+x1*x2)*x3*y3) := by grind
theorem ay_num {d x1 y1 x2 y2 x3 y3 : Fp} (h1 : d * x1 * x1 * y1 * y1 = y1 * y1 - x1 * x1 - 1) (h2 : d * x2 * x2 * y2 * y2 = y2 * y2 - x2 * x2 - 1) (h3 : d * x3 * x3 * y3 * y3 = y3 * y3 - x3 * x3 - 1) :
    ((y1*y2+x1*x2)*(1+d*x1*x2*y1*y2)*y3+(x1*y2+x2*y1)*(1-d*x1*x2*y1*y2)*x3)*((1-(d*x2*x3*y2*y3)*(d*x2*x3*y2*y3)) - d*(x2*y3+x3*y2)*(y2*y3+x2*x3)*x1*y1)
      = ((y2*y3+x2*x3)*(1+d*x2*x3*y2*y3)*y1+(x2*y3+x3*y2)*(1-d*x2*x3*y2*y3)*x1)*((1-(d*x1*x2*y1*y2)*(d*x1*x2*y1*y2)) - d*(x1*y2+x2*y1)*(y1*y2+x1*x2)*x3*y3) := by grind
/-- a sum of a sum, without fractions -/
theorem sum_x {d sx sy tx a b x3 y3 p m : Fp} (ha : sx * p = a) (hb : sy * m = b) (ht : tx * (1 + d * sx * x3 * sy * y3) = sx * y3 + x3 * sy) : tx * (p * m + d * a * b * x3 * y3) = a * m * y3 + b * p * x3 := by grind
theorem sum_y {d sx sy ty a b x3 y3 p m : Fp} (ha : sx * p = a) (hb : sy * m = b) (ht : ty * (1 - d * sx * x3 * sy * y3) = sy * y3 + sx * x3) : ty * (p * m - d * a * b * x3 * y3) = b * p * y3 + a * m * x3 := by grind
theorem den_p {d sx sy a b x3 y3 p m : Fp} (ha : sx * p = a) (hb : sy * m = b) (hp : p ≠ 0) (hm : m ≠ 0) (ht : 1 + d * sx * x3 * sy * y3 ≠ 0) : p * m + d * a * b * x3 * y3 ≠ 0 := by
  have h := Fp.mul_ne (Fp.mul_ne hp hm) ht
  have e : p * m + d * a * b * x3 * y3 = p * m * (1 + d * sx * x3 * sy * y3) := by grind
  rw [e]; exact h
theorem den_m {d sx sy a b x3 y3 p m : Fp} (ha : sx * p = a) (hb : sy * m = b) (hp : p ≠ 0) (hm : m ≠ 0) (ht : 1 - d * sx * x3 * sy * y3 ≠ 0) : p * m - d * a * b * x3 * y3 ≠ 0 := by
  have h := Fp.mul_ne (Fp.mul_ne hp hm) ht
  have e : p * m - d * a * b * x3 * y3 = p * m * (1 - d * sx * x3 * sy * y3) := by grind
  rw [e]; exact h
theorem cross {t t' n n' e e' : Fp} (h : t * e = n) (h' : t' * e' = n') (he : e ≠ 0) (he' : e' ≠ 0) (hx : n * e' = n' * e) : t = t' := by
  apply Fp.cancel (Fp.mul_ne he he')
  grind
theorem add_assoc (P Q R : Pt) : add (add P Q) R = add P (add Q R) := by
  rw [add_comm P (add Q R)]
  have a1 := add_x P Q
  have a2 := add_y P Q
  have b1 := add_x Q R
  have b2 := add_y Q R
  have c1 := add_x (add P Q) R
  have c2 := add_y (add P Q) R
  have d1 := add_x (add Q R) P
  have d2 := add_y (add Q R) P
  have p1 := plus_ne P.on Q.on
  have m1 := minus_ne P.on Q.on
  have p2 := plus_ne Q.on R.on
  have m2 := minus_ne Q.on R.on
  have p3 := plus_ne (add P Q).on R.on
  have m3 := minus_ne (add P Q).on R.on
  have p4 := plus_ne (add Q R).on P.on
  have m4 := minus_ne (add Q R).on P.on
  have AX := ax_num P.on Q.on R.on
  have AY := ay_num P.on Q.on R.on
  apply Pt.ext
  · refine cross (sum_x a1 a2 c1) (sum_x b1 b2 d1) (den_p a1 a2 p1 m1 p3) (den_p b1 b2 p2 m2 p4) ?_
    clear a1 a2 b1 b2 c1 c2 d1 d2 p1 m1 p2 m2 p3 m3 p4 m4 AY
    generalize d * P.x * Q.x * P.y * Q.y = D at *
    generalize d * Q.x * R.x * Q.y * R.y = D' at *
    grind
  · refine cross (sum_y a1 a2 c2) (sum_y b1 b2 d2) (den_m a1 a2 p1 m1 m3) (den_m b1 b2 p2 m2 m4) ?_
    clear a1 a2 b1 b2 c1 c2 d1 d2 p1 m1 p2 m2 p3 m3 p4 m4 AX
    generalize d * P.x * Q.x * P.y * Q.y = D at *
    generalize d * Q.x * R.x * Q.y * R.y = D' at *
    grind
end Ed
end Go.Proofs.YtilccncddbgpbaaDoor
