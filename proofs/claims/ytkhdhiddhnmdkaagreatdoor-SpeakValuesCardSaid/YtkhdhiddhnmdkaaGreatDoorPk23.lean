/-
Square roots modulo p: the field's way and the document's way give the same.
The curve's points in four numbers (x, y as quotients by z, and t = x y / z): sums, and multiples bit by bit.
Roots that exist are found; the base point's; a key's bytes are read as the point that they are of.
FieldRoots, walked.
-/
import Derived.Test.YtkhdhiddhnmdkaaGreatDoorPk17
import Derived.Test.YtkhdhiddhnmdkaaGreatDoorPk18
import Derived.Test.YtkhdhiddhnmdkaaGreatDoorPk16
namespace Go.Proofs.YtkhdhiddhnmdkaaGreatDoor
open Go.RowKit

namespace Fp
theorem pw_zero (x : Fp) : x ^ 0 = 1 := by grind
theorem pw_add (x : Fp) (m : Nat) : ∀ n, x ^ (m + n) = x ^ m * x ^ n
  | 0 => by rw [pw_zero]; grind
  | n + 1 => by
    rw [show m + (n + 1) = (m + n) + 1 by omega, pw_succ, pw_add x m n, pw_succ]
    generalize x ^ m = a
    generalize x ^ n = b
    grind
theorem mul_pw (x y : Fp) : ∀ n : Nat, (x * y) ^ n = x ^ n * y ^ n
  | 0 => by rw [pw_zero, pw_zero, pw_zero]; grind
  | n + 1 => by
    rw [pw_succ, mul_pw x y n, pw_succ, pw_succ]
    generalize x ^ n = a
    generalize y ^ n = b
    grind
theorem pw_mul (x : Fp) (m : Nat) : ∀ n, x ^ (m * n) = (x ^ m) ^ n
  | 0 => by rw [Nat.mul_zero, pw_zero, pw_zero]
  | n + 1 => by rw [Nat.mul_succ, pw_add, pw_mul x m n, pw_succ]
end Fp
def m1 : Fp := ⟨19681161376707505956807079304988542015446066515923890162744021073123829784752, by decide⟩
def evF (x : Fp) : Fp := if x.val % 2 = 1 then -x else x
def cF (u v : Fp) : Fp := u * (v * v * v) * (u * (v * v * v * (v * v * v) * v)) ^ ((pP - 5) / 8)
def rt (u v : Fp) : Fp × Bool := if cF u v * cF u v * v = u then (evF (cF u v), true) else if cF u v * cF u v * v = -u then (evF (cF u v * m1), true) else (0, false)
def r0F (x : Fp) : Fp := x ^ ((pP + 3) / 8)
def r1F (x : Fp) : Fp := if r0F x * r0F x = x then r0F x else r0F x * m1
def rtR (x : Fp) : Fp × Bool := if r1F x * r1F x = x then (evF (r1F x), true) else (0, false)
theorem m1_val : rM1 = 19681161376707505956807079304988542015446066515923890162744021073123829784752 := by
  have e : rM1 = evenR (pm pP 255 2 (pP / 2 ^ 2)) := by unfold rM1; rw [pm_eq pP 255 _ _ (by decide)]
  rw [e]
  decide +kernel
theorem m1_is : m1.val = rM1 := m1_val.symm
theorem m1_sq : m1 * m1 = -1 := by decide +kernel
theorem m1_even : m1.val % 2 = 0 := by decide +kernel
theorem m1N_exp : expN 20 / 2 ^ (255 - 253) = pP / 2 ^ 2 := by decide
theorem Lm.evF {a : List Nat} {x : Fp} (h : Lm a x.val) : Lm (evenN a) (evF x).val := by
  have e := h.even
  unfold Go.Proofs.YtkhdhiddhnmdkaaGreatDoor.evF
  by_cases c : x.val % 2 = 1
  · rw [if_pos c] at e ⊢; exact e.cast (val_neg x)
  · rw [if_neg c] at e ⊢; exact e
theorem two_val : (2 : Fp).val = 2 := by decide +kernel
theorem Lm.m1 : Lm m1N m1.val := by
  have h := (Lm.smallN 2 (by decide)).pow (expN 20) (expN_lt 20 (by omega)) 253 (by omega)
  have h2 := h.even
  rw [m1N_exp] at h2
  refine h2.cast ?_
  rw [m1_is]
  unfold rM1 evenR
  rw [show 2 % pP = 2 by decide]
theorem exp5 : expN 24 / 2 ^ (255 - 252) = (pP - 5) / 8 := by decide
theorem Lm.cand {a b : List Nat} {u v : Fp} (ha : Lm a u.val) (hb : Lm b v.val) : Lm (candN a b) (cF u v).val := by
  have h2 : Lm (mulF b b) (v * v).val := (hb.mul hb).cast (val_mul _ _)
  have h3 : Lm (v3N b) (v * v * v).val := (h2.mul hb).cast (val_mul _ _)
  have h6 : Lm (mulF (v3N b) (v3N b)) (v * v * v * (v * v * v)).val := (h3.mul h3).cast (val_mul _ _)
  have h7 : Lm (v7N b) (v * v * v * (v * v * v) * v).val := (h6.mul hb).cast (val_mul _ _)
  have hu7 : Lm (mulF a (v7N b)) (u * (v * v * v * (v * v * v) * v)).val := (ha.mul h7).cast (val_mul _ _)
  have hp := hu7.pow (expN 24) (expN_lt 24 (by omega)) 252 (by omega)
  rw [exp5] at hp
  have hp' : Lm (pwN (mulF a (v7N b)) (expN 24) 252) ((u * (v * v * v * (v * v * v) * v)) ^ ((pP - 5) / 8)).val := hp.cast (val_pow _ _)
  have hu3 : Lm (mulF a (v3N b)) (u * (v * v * v)).val := (ha.mul h3).cast (val_mul _ _)
  exact (hu3.mul hp').cast (val_mul _ _)
theorem Lm.root {a b : List Nat} {u v : Fp} (ha : Lm a u.val) (hb : Lm b v.val) : Lm (rootN a b).1 (rt u v).1.val ∧ (rootN a b).2 = (rt u v).2 := by
  have hc := ha.cand hb
  have hg : Lm (gotN a b) (cF u v * cF u v * v).val := (((hc.mul hc).cast (val_mul _ _)).mul hb).cast (val_mul _ _)
  have hn : Lm (negN a) (-u).val := ha.neg.cast (val_neg u)
  have s1 : sameN (gotN a b) a = decide (cF u v * cF u v * v = u) := (hg.same ha).trans (decide_eq_decide.2 Fin.val_inj)
  have s2 : sameN (gotN a b) (negN a) = decide (cF u v * cF u v * v = -u) := (hg.same hn).trans (decide_eq_decide.2 Fin.val_inj)
  unfold rootN rt
  rw [s1, s2]
  by_cases h1 : cF u v * cF u v * v = u
  · rw [decide_eq_true h1, if_pos rfl, if_pos h1]; exact ⟨hc.evF, rfl⟩
  · rw [decide_eq_false h1, if_neg (by decide), if_neg h1]
    by_cases h2 : cF u v * cF u v * v = -u
    · rw [decide_eq_true h2, if_pos rfl, if_pos h2]; exact ⟨(((hc.mul Lm.m1).cast (val_mul _ _))).evF, rfl⟩
    · rw [decide_eq_false h2, if_neg (by decide), if_neg h2]; exact ⟨Lm.zero, rfl⟩
theorem evenR_val (x : Fp) : evenR x.val = (evF x).val := by
  unfold evenR evF
  split
  · exact val_neg x
  · rfl
theorem r0_val (x : Fp) : rRoot0 x.val = (r0F x).val := val_pow x _
theorem r1_val (x : Fp) : rRoot1 x.val = (r1F x).val := by
  unfold rRoot1 r1F
  rw [r0_val, val_mul, ← m1_is, val_mul]
  by_cases h : r0F x * r0F x = x
  · rw [if_pos h, if_pos (congrArg Fin.val h)]
  · rw [if_neg h, if_neg (fun e => h (Fin.ext e))]
theorem good_val (x : Fp) : rGood x.val = (rtR x).2 := by
  unfold rGood rtR
  rw [r1_val, val_mul]
  by_cases h : r1F x * r1F x = x
  · rw [if_pos h]; exact decide_eq_true (congrArg Fin.val h)
  · rw [if_neg h]; exact decide_eq_false (fun e => h (Fin.ext e))
theorem rtR_pos {x : Fp} (h : r1F x * r1F x = x) : rtR x = (evF (r1F x), true) := if_pos h
theorem rtR_neg {x : Fp} (h : ¬ r1F x * r1F x = x) : rtR x = (0, false) := if_neg h
theorem rRoot_pos {y : Nat} (h : rGood y = true) : rRoot y = evenR (rRoot1 y) := by
  unfold rRoot
  rw [if_pos h]
theorem rRoot_neg {y : Nat} (h : rGood y = false) : rRoot y = 0 := by
  unfold rRoot
  rw [h]
  rfl
theorem root_val (x : Fp) : rRoot x.val = (rtR x).1.val := by
  have g := good_val x
  by_cases h : r1F x * r1F x = x
  · rw [rtR_pos h] at g ⊢
    exact (rRoot_pos g).trans ((congrArg evenR (r1_val x)).trans (evenR_val _))
  · rw [rtR_neg h] at g ⊢
    exact rRoot_neg g
/-- the quotient's power -/
theorem exp_sum (e k : Nat) (h1 : pP - 5 = 8 * k) (h2 : pP + 3 = 8 * e) : e = k + 1 ∧ e + (3 + 7 * k) = pP - 1 := by omega
theorem cF_eq {u v i : Fp} (hi : v * i = 1) : cF u v = r0F (u * i) := by
  have hv : v ≠ 0 := by
    intro e
    rw [e] at hi
    exact absurd hi (by rw [show (0 : Fp) * i = 0 by grind]; decide +kernel)
  obtain ⟨k, hk⟩ : ∃ k, k = (pP - 5) / 8 := ⟨_, rfl⟩
  obtain ⟨e, he⟩ : ∃ e, e = (pP + 3) / 8 := ⟨_, rfl⟩
  have ek := exp_sum e k (hk ▸ (by decide : pP - 5 = 8 * ((pP - 5) / 8))) (he ▸ (by decide : pP + 3 = 8 * ((pP + 3) / 8)))
  have f := Fp.fermat' hv ek.2
  rw [Fp.pw_add, Fp.pw_add, Fp.pw_mul] at f
  unfold cF r0F
  rw [← hk, ← he]
  have e7 : v * v * v * (v * v * v) * v = v ^ 7 := by grind
  have e3 : v * v * v = v ^ 3 := by grind
  rw [e7, e3, Fp.mul_pw u (v ^ 7), Fp.mul_pw u i]
  have hvi : v ^ e * i ^ e = 1 := by
    rw [← Fp.mul_pw, hi]
    clear hk he ek f
    induction e with
    | zero => exact Fp.pw_zero 1
    | succ n ih => rw [Fp.pw_succ, ih]; grind
  have hu : u ^ e = u ^ k * u := by rw [ek.1, Fp.pw_succ]
  rw [hu]
  generalize u ^ k = U at *
  generalize (v ^ 7) ^ k = V at *
  generalize v ^ 3 = W at *
  generalize v ^ e = X at *
  generalize i ^ e = I at *
  grind
theorem evF_sq (x : Fp) : evF x * evF x = x * x := by
  unfold evF
  split
  · grind
  · rfl
theorem evF_even (x : Fp) : (evF x).val % 2 = 0 := by
  unfold evF
  by_cases h : x.val % 2 = 1
  · rw [if_pos h, ← val_neg x]
    have hx := x.isLt
    have e := Nat.mod_eq_of_lt (show pP - x.val < pP by omega)
    rw [e]
    have : pP % 2 = 1 := by decide
    omega
  · rw [if_neg h]; omega
theorem sq_iff {c v u i : Fp} (hi : v * i = 1) : c * c * v = u ↔ c * c = u * i := ⟨fun h => by grind, fun h => by grind⟩
theorem neg_ne {a : Fp} (h : a = -a) : a = 0 := by
  have h2 : 2 * a = 0 := by grind
  exact (Fp.zero_or h2).resolve_left (by decide +kernel)
theorem rt_eq {u v i : Fp} (hi : v * i = 1) : rt u v = rtR (u * i) := by
  unfold rt rtR r1F
  rw [← cF_eq hi]
  have hm := m1_sq
  generalize cF u v = c at *
  by_cases h1 : c * c * v = u
  · have h2 := (sq_iff hi).1 h1
    rw [if_pos h1, if_pos h2, if_pos h2]
  · have h2 : ¬ c * c = u * i := fun e => h1 ((sq_iff hi).2 e)
    rw [if_neg h1, if_neg h2]
    by_cases h3 : c * c * v = -u
    · have h4 : c * m1 * (c * m1) = u * i := by grind
      rw [if_pos h3, if_pos h4]
    · have h4 : ¬ c * m1 * (c * m1) = u * i := fun e => h3 (by grind)
      rw [if_neg h3, if_neg h4]
theorem rt_zero (u : Fp) : rt u 0 = (0, decide (u = 0)) := by
  have hc : ∀ c : Fp, c * c * 0 = 0 := fun c => by grind
  have h0 : cF u 0 = 0 := by
    unfold cF
    generalize (u * (0 * 0 * 0 * (0 * 0 * 0) * 0)) ^ ((pP - 5) / 8) = k
    grind
  unfold rt
  rw [h0, hc]
  by_cases h : u = 0
  · rw [if_pos h.symm, decide_eq_true h]
    have : evF 0 = 0 := by decide +kernel
    rw [this]
  · rw [if_neg (fun e => h e.symm), if_neg (fun e => h (by grind)), decide_eq_false h]
theorem root_neg {c i v u : Fp} (h : c * c * v = -u) (hi : i * i = -1) : c * i * (c * i) * v = u := by grind
/-- what a root is -/
theorem rt_ok {u v : Fp} (h : (rt u v).2 = true) : (rt u v).1 * (rt u v).1 * v = u ∧ (rt u v).1.val % 2 = 0 := by
  have hm := m1_sq
  unfold rt at h ⊢
  generalize cF u v = c at *
  generalize m1 = i at *
  by_cases h1 : c * c * v = u
  · rw [if_pos h1]
    show evF c * evF c * v = u ∧ (evF c).val % 2 = 0
    rw [evF_sq]
    exact ⟨h1, evF_even _⟩
  · rw [if_neg h1] at h ⊢
    by_cases h2 : c * c * v = -u
    · rw [if_pos h2]
      show evF (c * i) * evF (c * i) * v = u ∧ (evF (c * i)).val % 2 = 0
      rw [evF_sq]
      exact ⟨root_neg h2 hm, evF_even _⟩
    · rw [if_neg h2] at h; cases h
end Go.Proofs.YtkhdhiddhnmdkaaGreatDoor

namespace Go.Proofs.YtkhdhiddhnmdkaaGreatDoor
namespace Ed
structure Ex (X Y Z T : Fp) (P : Pt) : Prop where
  z : Z ≠ 0
  x : X = Z * P.x
  y : Y = Z * P.y
  t : T = Z * P.x * P.y
theorem ex_one (P : Pt) : Ex P.x P.y 1 (P.x * P.y) P := ⟨one_ne, by grind, by grind, by grind⟩
theorem ex_flat {x y : Fp} {P : Pt} (hx : x = P.x) (hy : y = P.y) : Ex x y 1 (x * y) P := by subst hx; subst hy; exact ex_one P
theorem ex_O : Ex 0 1 1 0 O := ⟨one_ne, by show (0 : Fp) = 1 * 0; decide +kernel, by show (1 : Fp) = 1 * 1; decide +kernel, by show (0 : Fp) = 1 * 0 * 1; decide +kernel⟩
theorem four_ne : (4 : Fp) ≠ 0 := by decide +kernel
/-- the program's sum -/
def aF (X1 Y1 X2 Y2 : Fp) : Fp := (Y1 - X1) * (Y2 - X2)
def bF (X1 Y1 X2 Y2 : Fp) : Fp := (Y1 + X1) * (Y2 + X2)
theorem e_num {z1 x1 y1 z2 x2 y2 : Fp} : bF (z1 * x1) (z1 * y1) (z2 * x2) (z2 * y2) - aF (z1 * x1) (z1 * y1) (z2 * x2) (z2 * y2) = 2 * (z1 * z2) * (x1 * y2 + x2 * y1) := by unfold aF bF; grind
theorem h_num {z1 x1 y1 z2 x2 y2 : Fp} : bF (z1 * x1) (z1 * y1) (z2 * x2) (z2 * y2) + aF (z1 * x1) (z1 * y1) (z2 * x2) (z2 * y2) = 2 * (z1 * z2) * (y1 * y2 + x1 * x2) := by unfold aF bF; grind
theorem f_num {d z1 x1 y1 z2 x2 y2 : Fp} : (z1 * z2 + z1 * z2) - z1 * x1 * y1 * (d + d) * (z2 * x2 * y2) = 2 * (z1 * z2) * (1 - d * x1 * x2 * y1 * y2) := by grind
theorem g_num {d z1 x1 y1 z2 x2 y2 : Fp} : (z1 * z2 + z1 * z2) + z1 * x1 * y1 * (d + d) * (z2 * x2 * y2) = 2 * (z1 * z2) * (1 + d * x1 * x2 * y1 * y2) := by grind
theorem x_out {k f g e x : Fp} (h : x * g = e) : k * e * (k * f) = k * f * (k * g) * x := by grind
theorem y_out {k f g e y : Fp} (h : y * f = e) : k * g * (k * e) = k * f * (k * g) * y := by grind
theorem t_out {k f g e h x y : Fp} (h1 : x * g = e) (h2 : y * f = h) : k * e * (k * h) = k * f * (k * g) * x * y := by grind
theorem Ex.add {X1 Y1 Z1 T1 X2 Y2 Z2 T2 : Fp} {P Q : Pt} (h1 : Ex X1 Y1 Z1 T1 P) (h2 : Ex X2 Y2 Z2 T2 Q) :
    Ex ((bF X1 Y1 X2 Y2 - aF X1 Y1 X2 Y2) * ((Z1 * Z2 + Z1 * Z2) - T1 * (d + d) * T2)) (((Z1 * Z2 + Z1 * Z2) + T1 * (d + d) * T2) * (bF X1 Y1 X2 Y2 + aF X1 Y1 X2 Y2))
      (((Z1 * Z2 + Z1 * Z2) - T1 * (d + d) * T2) * ((Z1 * Z2 + Z1 * Z2) + T1 * (d + d) * T2)) ((bF X1 Y1 X2 Y2 - aF X1 Y1 X2 Y2) * (bF X1 Y1 X2 Y2 + aF X1 Y1 X2 Y2)) (add P Q) := by
  obtain ⟨z1, rfl, rfl, rfl⟩ := h1
  obtain ⟨z2, rfl, rfl, rfl⟩ := h2
  rw [e_num, h_num, f_num, g_num]
  have hp := plus_ne P.on Q.on
  have hm := minus_ne P.on Q.on
  have ax := add_x P Q
  have ay := add_y P Q
  have k0 : 2 * (Z1 * Z2) ≠ 0 := Fp.mul_ne two_ne (Fp.mul_ne z1 z2)
  exact ⟨Fp.mul_ne (Fp.mul_ne k0 hm) (Fp.mul_ne k0 hp), x_out ax, y_out ay, t_out ax ay⟩
theorem Ex.neg {X Y Z T : Fp} {P : Pt} (h : Ex X Y Z T P) : Ex (-X) Y Z (-T) (negP P) := by
  obtain ⟨z, rfl, rfl, rfl⟩ := h
  refine ⟨z, ?_, rfl, ?_⟩
  · show _ = Z * -P.x; grind
  · show _ = Z * -P.x * P.y; grind
theorem Ex.quot {X Y Z T : Fp} {P : Pt} (h : Ex X Y Z T P) : Y * Fp.inv Z = P.y ∧ X * Fp.inv Z = P.x := by
  obtain ⟨z, rfl, rfl, rfl⟩ := h
  have hi := Fp.mul_inv z
  generalize Fp.inv Z = i at *
  generalize P.x = x
  generalize P.y = y
  constructor <;> grind
/-- multiples, from the top bit on -/
theorem bit_down (K j : Nat) (hj : j < 256) : K / 2 ^ (256 - (j + 1)) = 2 * (K / 2 ^ (256 - j)) + (bitB K (255 - j)).toNat := by
  unfold bitB
  have e : 256 - j = (255 - j) + 1 := by omega
  rw [show 256 - (j + 1) = 255 - j by omega, e, Nat.pow_succ, ← Nat.div_div_eq_div_mul]
  generalize K / 2 ^ (255 - j) = m
  by_cases h : m % 2 = 1
  · simp [h]; omega
  · have h0 : m % 2 = 0 := by omega
    simp [h0]; omega
theorem smul_bit (n : Nat) (P : Pt) : ∀ b : Bool, smul (2 * n + b.toNat) P = if b then add (add (smul n P) (smul n P)) P else add (smul n P) (smul n P)
  | false => (twice n P).symm
  | true => by
    show smul (2 * n + 1) P = add (add (smul n P) (smul n P)) P
    rw [twice]; rfl
end Ed
end Go.Proofs.YtkhdhiddhnmdkaaGreatDoor

namespace Go.Proofs.YtkhdhiddhnmdkaaGreatDoor
theorem Fp.neg_val {x : Fp} (h : x ≠ 0) : (-x).val = pP - x.val := by
  rw [← val_neg x]
  exact Nat.mod_eq_of_lt (by
    have h0 : x.val ≠ 0 := fun e => h (Fin.ext e)
    have := x.isLt
    omega)
theorem evF_neg (x : Fp) : evF (-x) = evF x := by
  by_cases h : x = 0
  · rw [h]; decide +kernel
  · have hv := Fp.neg_val h
    have h0 : x.val ≠ 0 := fun e => h (Fin.ext e)
    have hx := x.isLt
    have hp : pP % 2 = 1 := by decide
    unfold evF
    by_cases c : x.val % 2 = 1
    · rw [if_pos c, if_neg (by omega)]
    · rw [if_neg c, if_pos (by omega)]; grind
theorem sq_two {a b : Fp} (h : a * a = b * b) : a = b ∨ a = -b := by
  have h2 : (a - b) * (a + b) = 0 := by grind
  rcases Fp.zero_or h2 with h | h
  · exact .inl (by grind)
  · exact .inr (by grind)
theorem evF_of_sq {a b : Fp} (h : a * a = b * b) : evF a = evF b := by
  rcases sq_two h with rfl | rfl
  · rfl
  · exact evF_neg b
theorem e8 (e h : Nat) (he : pP + 3 = 8 * e) (hh : pP - 1 = 2 * h) : 2 * (e + e) = 2 * h / 1 / 2 + 2 ∧ h + h = pP - 1 ∧ 2 * e + 2 * e = h + 2 := by omega
theorem one_pow (n : Nat) : (1 : Fp) ^ n = 1 := by
  induction n with
  | zero => exact Fp.pw_zero 1
  | succ n ih => rw [Fp.pw_succ, ih]; grind
theorem r0_sq (x : Fp) (hx : x ≠ 0) : r0F (x * x) * r0F (x * x) = x * x ∨ r0F (x * x) * r0F (x * x) = -(x * x) := by
  obtain ⟨e, he⟩ : ∃ e, e = (pP + 3) / 8 := ⟨_, rfl⟩
  obtain ⟨h, hh⟩ : ∃ h, h = (pP - 1) / 2 := ⟨_, rfl⟩
  have k := e8 e h (he ▸ (by decide : pP + 3 = 8 * ((pP + 3) / 8))) (hh ▸ (by decide : pP - 1 = 2 * ((pP - 1) / 2)))
  have f := Fp.fermat' hx k.2.1
  rw [Fp.pw_add] at f
  unfold r0F
  rw [← he, Fp.mul_pw, ← Fp.pw_add, ← Fp.pw_add, show e + e + (e + e) = h + 2 by omega, Fp.pw_add, show x ^ 2 = x * x by grind]
  clear he hh k
  generalize x ^ h = s at *
  have h1 : s * s = 1 * 1 := by rw [f]; decide +kernel
  rcases sq_two h1 with rfl | rfl
  · exact .inl (by grind)
  · exact .inr (by grind)
theorem r1_sq (x : Fp) : r1F (x * x) * r1F (x * x) = x * x := by
  by_cases hx : x = 0
  · subst hx
    have h0 : r0F (0 * 0) = 0 := by
      unfold r0F
      obtain ⟨k, hk⟩ : ∃ k, (pP + 3) / 8 = k + 1 := ⟨(pP + 3) / 8 - 1, by decide⟩
      rw [hk, Fp.pw_succ]
      generalize (0 * 0 : Fp) ^ k = a
      grind
    unfold r1F
    rw [h0, if_pos rfl]
  · unfold r1F
    have hm := m1_sq
    rcases r0_sq x hx with h | h
    · rw [if_pos h]; exact h
    · by_cases g : r0F (x * x) * r0F (x * x) = x * x
      · rw [if_pos g]; exact g
      · rw [if_neg g]
        generalize r0F (x * x) = q at *
        generalize m1 = i at *
        grind
theorem rt_total {u v x : Fp} (hv : v ≠ 0) (h : x * x * v = u) : rt u v = (evF x, true) := by
  obtain ⟨i, hi⟩ := Fp.has_inv hv
  have e : u * i = x * x := by grind
  rw [rt_eq hi, e, rtR_pos (r1_sq x), evF_of_sq (r1_sq x)]
namespace Ed
theorem v_ne {d x y : Fp} (h : d * x * x * y * y = y * y - x * x - 1) (hd : d + 1 ≠ 0) : d * (y * y) + 1 ≠ 0 := by
  intro e
  have h1 : y * y = 1 := by grind
  exact hd (by grind)
/-- the x of a point's y -/
theorem across {x y : Fp} (h : On x y) : rt (y * y - 1) (d * (y * y) + 1) = (evF x, true) := by
  refine rt_total (v_ne h d1_ne) ?_
  unfold On at h
  grind
theorem base_even : evF bx = bx := by decide +kernel
theorem base_y : Fp.ofN 4 * Fp.inv (Fp.ofN 5) = by' := by
  have h5 : Fp.ofN 5 ≠ 0 := by decide +kernel
  have hi := Fp.mul_inv h5
  have h4 : Fp.ofN 4 = Fp.ofN 5 * by' := by decide +kernel
  rw [h4]
  generalize Fp.inv (Fp.ofN 5) = i at *
  generalize Fp.ofN 5 = five at *
  generalize by' = y
  grind
theorem d_is : -(Fp.ofN 121665) * Fp.inv (Fp.ofN 121666) = d := by
  have h5 : Fp.ofN 121666 ≠ 0 := by decide +kernel
  have hi := Fp.mul_inv h5
  have h4 : -(Fp.ofN 121665) = Fp.ofN 121666 * d := by decide +kernel
  rw [h4]
  generalize Fp.inv (Fp.ofN 121666) = i at *
  generalize Fp.ofN 121666 = five at *
  generalize d = y
  grind
/-- of what is read: x, or less x, by the sign -/
def signed (b : Bool) (x : Fp) : Fp := if b then -evF x else evF x
theorem signed_odd (x : Fp) : signed (decide (x.val % 2 = 1)) x = x := by
  unfold signed evF
  by_cases c : x.val % 2 = 1
  · rw [if_pos c, decide_eq_true c, if_pos rfl]; grind
  · rw [if_neg c, decide_eq_false c]; rfl
end Ed
end Go.Proofs.YtkhdhiddhnmdkaaGreatDoor

namespace Go.Proofs.YtkhdhiddhnmdkaaGreatDoor
open Go.RowKit

theorem elRoot {a b : List Nat} {u v : Fp} (ha : Lm a u.val) (hb : Lm b v.val) (w : World) : Calls Tryz.prog 91 #[.agg (uvals a).toArray, .agg (uvals b).toArray] w fun e w' => ∃ l, e = .returned (.tuple #[.agg (uvals l).toArray, .bool (rt u v).2]) ∧ Lm l (rt u v).1.val ∧ Below w.heap.size w w' := by
  have h := ha.root hb
  refine (el_root_ok a b w ha.own hb.own).mono ?_
  rintro e w' ⟨rfl, hb'⟩
  exact ⟨_, by rw [← h.2]; rfl, h.1, hb'⟩
theorem elM1 (w : World) : Calls Tryz.prog 107 #[] w (Gives w m1) := gives (el_m1_ok w) Lm.m1
end Go.Proofs.YtkhdhiddhnmdkaaGreatDoor
