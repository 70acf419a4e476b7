/-
The Montgomery ladder over the group of the curve: a pair (X, Z) stands for a point, (1 + y) / (1 - y) = X / Z.
The ladder gives multiples; the base point's order is a prime.
The document's ladder gives the same: its points are multiples of the program's.
Points of the curve in memory: two elements, ten cells.
-/
import Derived.Deep.MidRow
import Derived.Test.YtkhdhiddhnmdkaaGreatDoorPk17
namespace Go.Proofs.YtkhdhiddhnmdkaaGreatDoor
namespace Ed

/-- X / Z is (1 + y) / (1 - y) -/
structure Rep (X Z : Fp) (P : Pt) : Prop where
  ne : X ≠ 0 ∨ Z ≠ 0
  eq : X * (1 - P.y) = Z * (1 + P.y)
theorem half_two : ∃ i : Fp, 2 * i = 1 := Fp.has_inv two_ne
theorem scale_x {X Z y i : Fp} (h : X * (1 - y) = Z * (1 + y)) (hi : 2 * i = 1) : X = (X + Z) * i * (1 + y) := by grind
theorem scale_z {X Z y i : Fp} (h : X * (1 - y) = Z * (1 + y)) (hi : 2 * i = 1) : Z = (X + Z) * i * (1 - y) := by grind
theorem zero_mul' (a : Fp) : 0 * a = 0 := by grind
theorem Rep.scale {X Z : Fp} {P : Pt} (h : Rep X Z P) : ∃ k, k ≠ 0 ∧ X = k * (1 + P.y) ∧ Z = k * (1 - P.y) := by
  obtain ⟨i, hi⟩ := half_two
  have hx := scale_x h.eq hi
  have hz := scale_z h.eq hi
  refine ⟨(X + Z) * i, fun e => ?_, hx, hz⟩
  rw [e, zero_mul'] at hx hz
  exact h.ne.elim (fun n => n hx) (fun n => n hz)
theorem sum_two (k y : Fp) : k * (1 + y) + k * (1 - y) = 2 * k := by grind
theorem zero_add' (a : Fp) : 0 + a = a := by grind
theorem Rep.of_scale {k : Fp} {P : Pt} (hk : k ≠ 0) : Rep (k * (1 + P.y)) (k * (1 - P.y)) P := by
  refine ⟨?_, by grind⟩
  by_cases h1 : k * (1 + P.y) = 0
  · refine .inr fun h2 => ?_
    have h3 := sum_two k P.y
    rw [h1, h2, zero_add'] at h3
    exact Fp.mul_ne two_ne hk h3.symm
  · exact .inl h1
/-- twice -/
def dX (X Z : Fp) : Fp := (X + Z) * (X + Z) * ((X - Z) * (X - Z))
def dE (X Z : Fp) : Fp := (X + Z) * (X + Z) - (X - Z) * (X - Z)
def dZ (X Z : Fp) : Fp := dE X Z * ((X + Z) * (X + Z) + 121665 * dE X Z)
theorem dbl_key {d x y c : Fp} (h : d * x * x * y * y = y * y - x * x - 1) (hc : d * c = 1 - c) : y * y = (1 + (c - 1) * (1 - y * y)) * (1 + x * x) := by grind
theorem dX_scale (k y : Fp) : dX (k * (1 + y)) (k * (1 - y)) = 16 * k * k * k * k * (y * y) := by unfold dX; grind
theorem dE_scale (k y : Fp) : dE (k * (1 + y)) (k * (1 - y)) = 4 * k * k * (1 - y * y) := by unfold dE; grind
theorem dZ_scale (k y : Fp) : dZ (k * (1 + y)) (k * (1 - y)) = 16 * k * k * k * k * ((1 - y * y) * (1 + (121666 - 1) * (1 - y * y))) := by
  unfold dZ
  rw [dE_scale]
  grind
theorem dbl_eq {m s K Y X2 z : Fp} (hm : m = 2 - Y + X2) (hs : s = Y + X2) (hk : Y = z * (1 + X2)) : K * Y * (m - s) = K * ((1 - Y) * z) * (m + s) := by grind
theorem den_eq {d x y : Fp} (h : d * x * x * y * y = y * y - x * x - 1) : 1 - d * x * x * y * y = 2 - y * y + x * x := by grind
theorem mul_dist {a b m y' s : Fp} (hy : y' * m = s) (h : a * (m - s) = b * (m + s)) : a * (1 - y') * m = b * (1 + y') * m := by grind
theorem d_c : d * 121666 = 1 - 121666 := by have h := d_def; rw [h]; decide +kernel
theorem n16 : (16 : Fp) ≠ 0 := by decide +kernel
theorem z_ne {z : Fp} (hz : z = 1 + (121666 - 1) * (1 - 0)) : (1 - 0) * z ≠ 0 := by
  subst hz
  decide +kernel
theorem Rep.dbl {X Z : Fp} {P : Pt} (h : Rep X Z P) : Rep (dX X Z) (dZ X Z) (add P P) := by
  obtain ⟨k, hk, rfl, rfl⟩ := h.scale
  rw [dX_scale, dZ_scale]
  have key := dbl_key P.on d_c
  have hm := minus_ne P.on P.on
  have hy := add_y P P
  have hd := den_eq P.on
  have K0 : 16 * k * k * k * k ≠ 0 := Fp.mul_ne (Fp.mul_ne (Fp.mul_ne (Fp.mul_ne n16 hk) hk) hk) hk
  generalize 16 * k * k * k * k = K at *
  have HZ : 1 + (121666 - 1) * (1 - P.y * P.y) = 1 + (121666 - 1) * (1 - P.y * P.y) := rfl
  generalize hz : 1 + (121666 - 1) * (1 - P.y * P.y) = z at *
  replace HZ := hz.symm
  clear hz
  constructor
  · by_cases h1 : K * (P.y * P.y) = 0
    · refine .inr fun h2 => ?_
      have y0 : P.y * P.y = 0 := (Fp.zero_or h1).resolve_left K0
      rw [y0] at h2 key
      have h3 : (1 - (0 : Fp)) * z = 0 := (Fp.zero_or h2).resolve_left K0
      exact z_ne (HZ.trans (by rw [y0])) h3
    · exact .inl h1
  · refine Fp.cancel hm ?_
    exact mul_dist hy (dbl_eq hd rfl key)
/-- both together -/
def sA (X1 Z1 X2 Z2 : Fp) : Fp := (X2 - Z2) * (X1 + Z1)
def sB (X1 Z1 X2 Z2 : Fp) : Fp := (X2 + Z2) * (X1 - Z1)
def sX (X1 Z1 X2 Z2 : Fp) : Fp := (sA X1 Z1 X2 Z2 + sB X1 Z1 X2 Z2) * (sA X1 Z1 X2 Z2 + sB X1 Z1 X2 Z2)
def sZ (u X1 Z1 X2 Z2 : Fp) : Fp := u * ((sA X1 Z1 X2 Z2 - sB X1 Z1 X2 Z2) * (sA X1 Z1 X2 Z2 - sB X1 Z1 X2 Z2))
theorem sX_swap (X1 Z1 X2 Z2 : Fp) : sX X2 Z2 X1 Z1 = sX X1 Z1 X2 Z2 := by unfold sX sA sB; grind
theorem sZ_swap (u X1 Z1 X2 Z2 : Fp) : sZ u X2 Z2 X1 Z1 = sZ u X1 Z1 X2 Z2 := by unfold sZ sA sB; grind
theorem sA_scale (k l y1 y2 : Fp) : sA (k * (1 + y1)) (k * (1 - y1)) (l * (1 + y2)) (l * (1 - y2)) = 4 * k * l * y2 := by unfold sA; grind
theorem sB_scale (k l y1 y2 : Fp) : sB (k * (1 + y1)) (k * (1 - y1)) (l * (1 + y2)) (l * (1 - y2)) = 4 * k * l * y1 := by unfold sB; grind
theorem sum_key {d x1 y1 x2 y2 : Fp} (h1 : d * x1 * x1 * y1 * y1 = y1 * y1 - x1 * x1 - 1) (h2 : d * x2 * x2 * y2 * y2 = y2 * y2 - x2 * x2 - 1) :
    (y1 + y2) * (y1 + y2) * ((1 - d * x1 * x2 * y1 * y2) - (y1 * y2 + x1 * x2)) * ((1 + d * x1 * x2 * y1 * y2) - (y1 * y2 - x1 * x2)) =
    (y2 - y1) * (y2 - y1) * ((1 - d * x1 * x2 * y1 * y2) + (y1 * y2 + x1 * x2)) * ((1 + d * x1 * x2 * y1 * y2) + (y1 * y2 - x1 * x2)) := by grind
theorem sum_frac {a b m q s t yp ym u K : Fp} (hp : yp * m = s) (hq : ym * q = t) (hu : u * (1 - ym) = 1 + ym) (h : a * (m - s) * (q - t) = b * (m + s) * (q + t)) :
    K * a * (1 - yp) * (m * q * (1 - ym)) = u * (K * b) * (1 + yp) * (m * q * (1 - ym)) := by grind
theorem mul_zero_add (u z : Fp) (hz : z = 0) : u * z + z = 0 := by grind
theorem neg_y {d a b c e z : Fp} (h : z * (1 - d * a * -b * c * e) = c * e + a * -b) : z * (1 + d * a * b * c * e) = c * e - a * b := by grind
theorem two_zero {a b : Fp} (h : a - b = 0) (g : a + b = 0) : 2 * a = 0 ∧ 2 * b = 0 := by constructor <;> grind
theorem four_y {d x1 x2 z : Fp} (h1 : d * x1 * x1 * 0 * 0 = 0 * 0 - x1 * x1 - 1) (h2 : d * x2 * x2 * 0 * 0 = 0 * 0 - x2 * x2 - 1) (h : z * (1 + d * x1 * x2 * 0 * 0) = 0 * 0 - x1 * x2) : (z - 1) * (z + 1) = 0 := by grind
theorem y_one {z : Fp} (h : z - 1 = 0) : 1 - z = 0 := by grind
theorem y_neg {z : Fp} (h : z + 1 = 0) : 1 + z = 0 := by grind
theorem sum_out {K y1 y2 yp u M : Fp} (h : K * K * ((y1 + y2) * (y1 + y2)) * (1 - yp) * M = u * (K * K * ((y2 - y1) * (y2 - y1))) * (1 + yp) * M) :
    (K * y2 + K * y1) * (K * y2 + K * y1) * (1 - yp) * M = u * ((K * y2 - K * y1) * (K * y2 - K * y1)) * (1 + yp) * M := by grind
theorem fin_y {u y : Fp} (h : u * (1 - y) = 1 + y) : 1 - y ≠ 0 := by
  intro e
  rw [e] at h
  have t : (2 : Fp) = (1 + y) + (1 - y) := by grind
  rw [← h, e] at t
  exact two_ne (t.trans (mul_zero_add u 0 rfl))
theorem sq_zero {a : Fp} (h : a * a = 0) : a = 0 := (Fp.zero_or h).elim id id
theorem Rep.sum {X1 Z1 X2 Z2 u : Fp} {P Q D : Pt} (hP : Rep X1 Z1 P) (hQ : Rep X2 Z2 Q) (hD : add P (negP Q) = D) (hu : u * (1 - D.y) = 1 + D.y) (hu0 : u ≠ 0) : Rep (sX X1 Z1 X2 Z2) (sZ u X1 Z1 X2 Z2) (add P Q) := by
  obtain ⟨k, hk, rfl, rfl⟩ := hP.scale
  obtain ⟨l, hl, rfl, rfl⟩ := hQ.scale
  unfold sX sZ
  rw [sA_scale, sB_scale]
  have key := sum_key P.on Q.on
  have hm := minus_ne P.on Q.on
  have hq := plus_ne P.on Q.on
  have hp := add_y P Q
  have hn : D.y * (1 + d * P.x * Q.x * P.y * Q.y) = P.y * Q.y - P.x * Q.x := by
    have h := add_y P (negP Q)
    rw [hD] at h
    exact neg_y h
  have hf := fin_y hu
  have K0 : 4 * k * l ≠ 0 := Fp.mul_ne (Fp.mul_ne (by decide +kernel) hk) hl
  generalize 4 * k * l = K at *
  constructor
  · by_cases h1 : (K * Q.y + K * P.y) * (K * Q.y + K * P.y) = 0
    · refine .inr fun h2 => ?_
      have h3 := sq_zero ((Fp.zero_or h2).resolve_left hu0)
      have h4 := sq_zero h1
      obtain ⟨e1, e2⟩ := two_zero h3 h4
      have y1 : Q.y = 0 := (Fp.zero_or ((Fp.zero_or e1).resolve_left two_ne)).resolve_left K0
      have y2 : P.y = 0 := (Fp.zero_or ((Fp.zero_or e2).resolve_left two_ne)).resolve_left K0
      have o1 := P.on
      have o2 := Q.on
      unfold On at o1 o2
      rw [y2] at o1 hn
      rw [y1] at o2 hn
      rcases Fp.zero_or (four_y o1 o2 hn) with e | e
      · exact hf (y_one e)
      · exact Fp.mul_ne hu0 hf (hu.trans (y_neg e))
    · exact .inl h1
  · refine Fp.cancel (Fp.mul_ne (Fp.mul_ne hm hq) hf) ?_
    exact sum_out (sum_frac (K := K * K) hp hn hu key)
/-! multiples -/
def smul : Nat → Pt → Pt
  | 0, _ => O
  | n + 1, P => add (smul n P) P
theorem smul_one (P : Pt) : smul 1 P = P := O_add P
theorem smul_add (m : Nat) (P : Pt) : ∀ n, smul (m + n) P = add (smul m P) (smul n P)
  | 0 => (add_O _).symm
  | n + 1 => by
    show add (smul (m + n) P) P = add (smul m P) (add (smul n P) P)
    rw [smul_add m P n, add_assoc]
theorem smul_mul (m : Nat) (P : Pt) : ∀ n, smul (n * m) P = smul n (smul m P)
  | 0 => by rw [Nat.zero_mul]; rfl
  | n + 1 => by
    rw [Nat.succ_mul, smul_add, smul_mul m P n]; rfl
theorem smul_comm (m n : Nat) (P : Pt) : smul m (smul n P) = smul n (smul m P) := by rw [← smul_mul, ← smul_mul, Nat.mul_comm]
theorem smul_O : ∀ n, smul n O = O
  | 0 => rfl
  | n + 1 => by show add (smul n O) O = O; rw [smul_O n, add_O]
theorem next_less (n : Nat) (P : Pt) : add (smul (n + 1) P) (negP (smul n P)) = P := by
  show add (add (smul n P) P) (negP (smul n P)) = P
  rw [add_comm (smul n P) P, add_assoc, add_neg, add_O]
theorem twice (n : Nat) (P : Pt) : add (smul n P) (smul n P) = smul (2 * n) P := by rw [Nat.two_mul, smul_add]
/-- the ladder's state: n times and n + 1 times the point -/
structure Lad (P : Pt) (n : Nat) (X1 Z1 X2 Z2 : Fp) : Prop where
  a : Rep X1 Z1 (smul n P)
  b : Rep X2 Z2 (smul (n + 1) P)
theorem Lad.both {P : Pt} {n : Nat} {X1 Z1 X2 Z2 u : Fp} (h : Lad P n X1 Z1 X2 Z2) (hu : u * (1 - P.y) = 1 + P.y) (hu0 : u ≠ 0) : Rep (sX X1 Z1 X2 Z2) (sZ u X1 Z1 X2 Z2) (smul (2 * n + 1) P) := by
  have e : smul (2 * n + 1) P = add (smul n P) (smul (n + 1) P) := by rw [← smul_add, show n + (n + 1) = 2 * n + 1 by omega]
  rw [e, add_comm, ← sX_swap, ← sZ_swap]
  exact h.b.sum h.a (next_less n P) hu hu0
end Ed
end Go.Proofs.YtkhdhiddhnmdkaaGreatDoor

namespace Go.Proofs.YtkhdhiddhnmdkaaGreatDoor
namespace Ed

structure St where
  X1 : Fp
  Z1 : Fp
  X2 : Fp
  Z2 : Fp
def stepS (u : Fp) (b : Bool) (s : St) : St :=
  match b with
  | true => ⟨sX s.X2 s.Z2 s.X1 s.Z1, sZ u s.X2 s.Z2 s.X1 s.Z1, dX s.X2 s.Z2, dZ s.X2 s.Z2⟩
  | false => ⟨dX s.X1 s.Z1, dZ s.X1 s.Z1, sX s.X1 s.Z1 s.X2 s.Z2, sZ u s.X1 s.Z1 s.X2 s.Z2⟩
def bitB (K i : Nat) : Bool := K / 2 ^ i % 2 == 1
def lad (u : Fp) (K : Nat) : Nat → St
  | 0 => ⟨1, 0, u, 1⟩
  | j + 1 => stepS u (bitB K (254 - j)) (lad u K j)
def multF (K : Nat) (u : Fp) : Fp := (lad u K 255).X1 * Fp.inv (lad u K 255).Z1
theorem one_ne : (1 : Fp) ≠ 0 := by decide +kernel
theorem Lad.step {P : Pt} {n : Nat} {s : St} {u : Fp} (h : Lad P n s.X1 s.Z1 s.X2 s.Z2) (hu : u * (1 - P.y) = 1 + P.y) (hu0 : u ≠ 0) :
    ∀ b : Bool, Lad P (2 * n + b.toNat) (stepS u b s).X1 (stepS u b s).Z1 (stepS u b s).X2 (stepS u b s).Z2
  | false => ⟨by
      have := h.a.dbl
      rwa [twice] at this, h.both hu hu0⟩
  | true => ⟨by
      have := h.both hu hu0
      rwa [← sX_swap, ← sZ_swap] at this, by
      have := h.b.dbl
      rwa [twice] at this⟩
theorem bit_split (K j : Nat) (hj : j < 255) : K / 2 ^ (255 - (j + 1)) = 2 * (K / 2 ^ (255 - j)) + (bitB K (254 - j)).toNat := by
  unfold bitB
  have e : 255 - j = (254 - j) + 1 := by omega
  rw [show 255 - (j + 1) = 254 - j by omega, e, Nat.pow_succ, ← Nat.div_div_eq_div_mul]
  generalize K / 2 ^ (254 - j) = m
  by_cases h : m % 2 = 1
  · simp [h]; omega
  · have h0 : m % 2 = 0 := by omega
    simp [h0]; omega
theorem lad_ok {P : Pt} {u : Fp} {K : Nat} (hK : K < 2 ^ 255) (hu : u * (1 - P.y) = 1 + P.y) (hu0 : u ≠ 0) :
    ∀ j, j ≤ 255 → Lad P (K / 2 ^ (255 - j)) (lad u K j).X1 (lad u K j).Z1 (lad u K j).X2 (lad u K j).Z2
  | 0, _ => by
    rw [show K / 2 ^ (255 - 0) = 0 from Nat.div_eq_of_lt hK]
    refine ⟨⟨.inl one_ne, ?_⟩, ⟨.inr one_ne, ?_⟩⟩
    · show (1 : Fp) * (1 - 1) = 0 * (1 + 1)
      decide +kernel
    · rw [show smul (0 + 1) P = P from smul_one P]
      show u * (1 - P.y) = 1 * (1 + P.y)
      rw [hu]
      generalize P.y = y
      grind
  | j + 1, hj => by
    rw [bit_split K j (by omega)]
    exact (lad_ok hK hu hu0 j (by omega)).step hu hu0 _
def uOf (P : Pt) : Fp := (1 + P.y) * Fp.inv (1 - P.y)
theorem uOf_fin {P : Pt} (h : 1 - P.y ≠ 0) : uOf P * (1 - P.y) = 1 + P.y := by
  have hi := Fp.mul_inv h
  unfold uOf
  generalize 1 - P.y = a at *
  generalize Fp.inv a = i at *
  grind
theorem mul_zero' (a z : Fp) (hz : z = 0) : a * z = 0 := by grind
theorem both_one {y : Fp} (h : 1 - y = 0) : 1 + y = 2 := by grind
theorem out_eq {X Z y iz iy : Fp} (h : X * (1 - y) = Z * (1 + y)) (hz : Z * iz = 1) (hy : (1 - y) * iy = 1) : X * iz = (1 + y) * iy := by grind
theorem Rep.out {X Z : Fp} {P : Pt} (h : Rep X Z P) : X * Fp.inv Z = uOf P := by
  by_cases h1 : 1 - P.y = 0
  · have h2 := h.eq
    rw [h1, both_one h1, mul_zero' X 0 rfl] at h2
    have hz : Z = 0 := (Fp.zero_or h2.symm).resolve_right two_ne
    unfold uOf
    rw [hz, h1, Fp.inv_zero, mul_zero' _ 0 rfl, mul_zero' _ 0 rfl]
  · by_cases hz : Z = 0
    · have h2 := h.eq
      rw [hz, zero_mul'] at h2
      have hx : X = 0 := (Fp.zero_or h2).resolve_right h1
      exact absurd hz (h.ne.resolve_left (fun n => n hx))
    · exact out_eq h.eq (Fp.mul_inv hz) (Fp.mul_inv h1)
theorem multF_ok {P : Pt} {u : Fp} {K : Nat} (hK : K < 2 ^ 255) (hu : u * (1 - P.y) = 1 + P.y) (hu0 : u ≠ 0) : multF K u = uOf (smul K P) := by
  have h := (lad_ok hK hu hu0 255 (Nat.le_refl _)).a.out
  rw [show K / 2 ^ (255 - 255) = K by simp] at h
  exact h
/-! the base point -/
def bx : Fp := ⟨15112221349535400772501151409588531511454012693041857206046113283949847762202, by decide⟩
def by' : Fp := ⟨46316835694926478169428394003475163141307993866256225615783033603165251855960, by decide⟩
theorem base_on : On bx by' := by unfold On; decide +kernel
def B : Pt := ⟨bx, by', base_on⟩
theorem base_u : 9 * (1 - B.y) = 1 + B.y := by decide +kernel
theorem nine_ne : (9 : Fp) ≠ 0 := by decide +kernel
def ell : Nat := 2 ^ 252 + 27742317777372353535851937790883648493
theorem ell_prm : Prm ell := prmL
theorem ell_lt : ell < 2 ^ 255 := by decide
theorem d1_ne : d + 1 ≠ 0 := by decide +kernel
theorem x_zero {d x y : Fp} (h : d * x * x * y * y = y * y - x * x - 1) (hy : y * y = 1) : (d + 1) * (x * x) = 0 := by grind
theorem eq_O {P : Pt} (h : P.y = 1) : P = O := by
  have h2 := x_zero P.on (by rw [h]; decide +kernel)
  exact Pt.ext (sq_zero ((Fp.zero_or h2).resolve_left d1_ne)) h
theorem one_sub {y : Fp} (h : 1 - y = 0) : y = 1 := by grind
theorem order : smul ell B = O := by
  have h := (lad_ok (K := ell) ell_lt base_u nine_ne 255 (Nat.le_refl _)).a
  rw [show ell / 2 ^ (255 - 255) = ell by simp] at h
  have hz : (lad 9 ell 255).Z1 = 0 := by decide +kernel
  have h2 := h.eq
  rw [hz, zero_mul'] at h2
  have hx := h.ne.resolve_right (fun n => n hz)
  exact eq_O (one_sub ((Fp.zero_or h2).resolve_left hx))
theorem B_ne : B ≠ O := fun h => absurd (congrArg Pt.y h) (by decide +kernel)
theorem smul_mult (q : Nat) : smul (q * ell) B = O := by rw [smul_mul, order, smul_O]
theorem dvd_of_O {n : Nat} (h : smul n B = O) : ell ∣ n := by
  refine Decidable.byContradiction fun hn => ?_
  have f := ell_prm.fermat hn
  obtain ⟨k, hk⟩ : ∃ k, k + 1 = ell - 1 := ⟨ell - 2, by decide⟩
  rw [← hk] at f
  have e : n ^ (k + 1) = n ^ (k + 1) / ell * ell + 1 := by
    have := Nat.div_add_mod (n ^ (k + 1)) ell
    rw [f, Nat.mul_comm] at this
    exact this.symm
  have h1 : smul (n ^ (k + 1)) B = O := by rw [Nat.pow_succ, smul_mul, h, smul_O]
  rw [e, smul_add, smul_mult, O_add, smul_one] at h1
  exact B_ne h1
/-! what a clamped number gives -/
theorem not_dvd_clamp {K : Nat} (h8 : 8 ∣ K) (h0 : 0 < K) (hK : K < 2 ^ 255) : ¬ ell ∣ K := by
  obtain ⟨k, rfl⟩ := h8
  intro h
  rcases ell_prm.dvd_mul h with h | h
  · exact absurd (Nat.le_of_dvd (by decide) h) (by decide)
  · have := Nat.le_of_dvd (by omega) h
    have he : ell > 2 ^ 252 := by decide
    omega
theorem z_one {z d x y : Fp} (hx : x = 0) (hy : y * y = 1) (h : z * (1 - d * x * x * y * y) = y * y + x * x) : z = 1 := by grind
theorem neg_one_twice {P : Pt} (h : 1 + P.y = 0) : smul 2 P = O := by
  rw [show smul 2 P = add P P by rw [show (2 : Nat) = 1 + 1 from rfl, smul_add, smul_one]]
  have hy : P.y * P.y = 1 := by grind
  have h2 := x_zero P.on hy
  have hx : P.x = 0 := sq_zero ((Fp.zero_or h2).resolve_left d1_ne)
  refine eq_O ?_
  exact z_one hx hy (add_y P P)
/-- neither infinite nor 0 -/
theorem fine {n : Nat} (h : ¬ ell ∣ n) : 1 - (smul n B).y ≠ 0 ∧ 1 + (smul n B).y ≠ 0 := by
  constructor
  · intro e
    exact h (dvd_of_O (eq_O (one_sub e)))
  · intro e
    have h2 := neg_one_twice e
    rw [← smul_mul] at h2
    rcases ell_prm.dvd_mul (dvd_of_O h2) with h3 | h3
    · exact absurd (Nat.le_of_dvd (by decide) h3) (by decide)
    · exact h h3
theorem uOf_ne {P : Pt} (h : 1 - P.y ≠ 0) (h2 : 1 + P.y ≠ 0) : uOf P ≠ 0 := by
  intro e
  have := uOf_fin h
  rw [e, zero_mul'] at this
  exact h2 this.symm
theorem mult_next {n K : Nat} (h : ¬ ell ∣ n) (hK : K < 2 ^ 255) : multF K (uOf (smul n B)) = uOf (smul (K * n) B) := by
  have f := fine h
  rw [multF_ok hK (uOf_fin f.1) (uOf_ne f.1 f.2), smul_mul]
theorem mult_base {K : Nat} (hK : K < 2 ^ 255) : multF K 9 = uOf (smul K B) := multF_ok hK base_u nine_ne
end Ed
end Go.Proofs.YtkhdhiddhnmdkaaGreatDoor

namespace Go.Proofs.YtkhdhiddhnmdkaaGreatDoor
namespace Ed

def tX (x z : Fp) : Fp := (x * x - z * z) * (x * x - z * z)
def tZ (x z : Fp) : Fp := 4 * (x * z) * (x * x + z * z + 486662 * (x * z))
def rX (x1 z1 x2 z2 : Fp) : Fp := (x1 * x2 - z1 * z2) * (x1 * x2 - z1 * z2)
def rZ (u x1 z1 x2 z2 : Fp) : Fp := u * ((x1 * z2 - z1 * x2) * (x1 * z2 - z1 * x2))
def rstep (u : Fp) (b : Bool) (s : St) : St :=
  match b with
  | true => ⟨rX s.X1 s.Z1 s.X2 s.Z2, rZ u s.X1 s.Z1 s.X2 s.Z2, tX s.X2 s.Z2, tZ s.X2 s.Z2⟩
  | false => ⟨tX s.X1 s.Z1, tZ s.X1 s.Z1, rX s.X1 s.Z1 s.X2 s.Z2, rZ u s.X1 s.Z1 s.X2 s.Z2⟩
def rlad (u : Fp) (K : Nat) : Nat → St
  | 0 => ⟨1, 0, u, 1⟩
  | j + 1 => rstep u (bitB K (255 - j)) (rlad u K j)
def refF (K : Nat) (u : Fp) : Fp := (rlad u K 256).X1 * Fp.inv (rlad u K 256).Z1
theorem dX_t (k x z : Fp) : dX (k * x) (k * z) = k * k * (k * k) * tX x z := by unfold dX tX; grind
theorem dE_t (k x z : Fp) : dE (k * x) (k * z) = k * k * (4 * (x * z)) := by unfold dE; grind
theorem dZ_t (k x z : Fp) : dZ (k * x) (k * z) = k * k * (k * k) * tZ x z := by
  unfold dZ tZ
  rw [dE_t]
  grind
theorem sA_r (k l x1 z1 x2 z2 : Fp) : sA (k * x1) (k * z1) (l * x2) (l * z2) + sB (k * x1) (k * z1) (l * x2) (l * z2) = 2 * k * l * (x1 * x2 - z1 * z2) := by unfold sA sB; grind
theorem sB_r (k l x1 z1 x2 z2 : Fp) : sA (k * x1) (k * z1) (l * x2) (l * z2) - sB (k * x1) (k * z1) (l * x2) (l * z2) = 2 * k * l * (z1 * x2 - x1 * z2) := by unfold sA sB; grind
theorem sX_r (k l x1 z1 x2 z2 : Fp) : sX (k * x1) (k * z1) (l * x2) (l * z2) = 2 * k * l * (2 * k * l) * rX x1 z1 x2 z2 := by
  unfold sX rX
  rw [sA_r]
  grind
theorem sZ_r (u k l x1 z1 x2 z2 : Fp) : sZ u (k * x1) (k * z1) (l * x2) (l * z2) = 2 * k * l * (2 * k * l) * rZ u x1 z1 x2 z2 := by
  unfold sZ rZ
  rw [sB_r]
  grind
theorem rX_swap (x1 z1 x2 z2 : Fp) : rX x2 z2 x1 z1 = rX x1 z1 x2 z2 := by unfold rX; grind
theorem rZ_swap (u x1 z1 x2 z2 : Fp) : rZ u x2 z2 x1 z1 = rZ u x1 z1 x2 z2 := by unfold rZ; grind
/-- s is r, but for factors -/
structure Pr (s r : St) : Prop where
  a : ∃ k, k ≠ 0 ∧ s.X1 = k * r.X1 ∧ s.Z1 = k * r.Z1
  b : ∃ l, l ≠ 0 ∧ s.X2 = l * r.X2 ∧ s.Z2 = l * r.Z2
theorem Pr.step {s r : St} (u : Fp) (h : Pr s r) : ∀ b, Pr (stepS u b s) (rstep u b r)
  | false => by
    obtain ⟨⟨k, hk, e1, e2⟩, ⟨l, hl, e3, e4⟩⟩ := h
    refine ⟨⟨k * k * (k * k), Fp.mul_ne (Fp.mul_ne hk hk) (Fp.mul_ne hk hk), ?_, ?_⟩, ⟨2 * k * l * (2 * k * l), Fp.mul_ne (Fp.mul_ne (Fp.mul_ne two_ne hk) hl) (Fp.mul_ne (Fp.mul_ne two_ne hk) hl), ?_, ?_⟩⟩
    · show dX s.X1 s.Z1 = _; rw [e1, e2, dX_t]; rfl
    · show dZ s.X1 s.Z1 = _; rw [e1, e2, dZ_t]; rfl
    · show sX s.X1 s.Z1 s.X2 s.Z2 = _; rw [e1, e2, e3, e4, sX_r]; rfl
    · show sZ u s.X1 s.Z1 s.X2 s.Z2 = _; rw [e1, e2, e3, e4, sZ_r]; rfl
  | true => by
    obtain ⟨⟨k, hk, e1, e2⟩, ⟨l, hl, e3, e4⟩⟩ := h
    refine ⟨⟨2 * l * k * (2 * l * k), Fp.mul_ne (Fp.mul_ne (Fp.mul_ne two_ne hl) hk) (Fp.mul_ne (Fp.mul_ne two_ne hl) hk), ?_, ?_⟩, ⟨l * l * (l * l), Fp.mul_ne (Fp.mul_ne hl hl) (Fp.mul_ne hl hl), ?_, ?_⟩⟩
    · show sX s.X2 s.Z2 s.X1 s.Z1 = _ * rX r.X1 r.Z1 r.X2 r.Z2; rw [e1, e2, e3, e4, sX_r, rX_swap]
    · show sZ u s.X2 s.Z2 s.X1 s.Z1 = _ * rZ u r.X1 r.Z1 r.X2 r.Z2; rw [e1, e2, e3, e4, sZ_r, rZ_swap]
    · show dX s.X2 s.Z2 = _; rw [e3, e4, dX_t]; rfl
    · show dZ s.X2 s.Z2 = _; rw [e3, e4, dZ_t]; rfl
theorem first_bit {K : Nat} (hK : K < 2 ^ 255) : bitB K (255 - 0) = false := by
  unfold bitB
  rw [show K / 2 ^ (255 - 0) = 0 from Nat.div_eq_of_lt hK]
  rfl
theorem t_one : tX 1 0 = 1 ∧ tZ 1 0 = 0 := by constructor <;> decide +kernel
theorem r_first (u z o : Fp) (hz : z = 0) (ho : o = 1) : rX o z u o = u * u ∧ rZ u o z u o = u := by
  unfold rX rZ
  constructor <;> grind
theorem mul_one'' (a o : Fp) (ho : o = 1) : a = o * a := by grind
theorem inv_sq {u i : Fp} (h : u * i = 1) : u = i * (u * u) ∧ 1 = i * u := by constructor <;> grind
theorem Pr.start {u : Fp} {K : Nat} (hK : K < 2 ^ 255) (hu : u ≠ 0) : Pr (lad u K 0) (rlad u K 1) := by
  obtain ⟨i, hi⟩ := Fp.has_inv hu
  have hi0 : i ≠ 0 := by
    intro e
    rw [e, mul_zero' u 0 rfl] at hi
    exact one_ne hi.symm
  have hs := inv_sq hi
  have hr := r_first u 0 1 rfl rfl
  show Pr ⟨1, 0, u, 1⟩ (rstep u (bitB K (255 - 0)) ⟨1, 0, u, 1⟩)
  rw [first_bit hK]
  refine ⟨⟨1, one_ne, ?_, ?_⟩, ⟨i, hi0, ?_, ?_⟩⟩
  · show (1 : Fp) = 1 * tX 1 0; rw [t_one.1]; decide +kernel
  · show (0 : Fp) = 1 * tZ 1 0; rw [t_one.2]; decide +kernel
  · show u = i * rX 1 0 u 1; rw [hr.1]; exact hs.1
  · show (1 : Fp) = i * rZ u 1 0 u 1; rw [hr.2]; exact hs.2
theorem Pr.all {u : Fp} {K : Nat} (hK : K < 2 ^ 255) (hu : u ≠ 0) : ∀ j, j ≤ 255 → Pr (lad u K j) (rlad u K (j + 1))
  | 0, _ => Pr.start hK hu
  | j + 1, hj => by
    have h := (Pr.all hK hu j (by omega)).step u (bitB K (254 - j))
    show Pr (stepS u (bitB K (254 - j)) (lad u K j)) (rstep u (bitB K (255 - (j + 1))) (rlad u K (j + 1)))
    rw [show 255 - (j + 1) = 254 - j by omega]
    exact h
/-- all at the infinite place -/
theorem dZ_zero (x z : Fp) (hz : z = 0) : dZ x z = 0 := by
  subst hz
  unfold dZ
  rw [show dE x 0 = 0 by unfold dE; grind]
  exact zero_mul' _
theorem sZ_zero (a b c d z : Fp) (hz : z = 0) : sZ z a b c d = 0 := by
  subst hz
  unfold sZ
  exact zero_mul' _
theorem dZ_one : dZ 0 1 = 0 := by decide +kernel
theorem dZ_ten : dZ 1 0 = 0 := by decide +kernel
theorem lad_zero (K : Nat) : ∀ j, 1 ≤ j → (lad 0 K j).Z1 = 0 ∧ (lad 0 K j).Z2 = 0
  | 0, h => absurd h (by omega)
  | 1, _ => by
    show (stepS 0 (bitB K (254 - 0)) ⟨1, 0, 0, 1⟩).Z1 = 0 ∧ (stepS 0 (bitB K (254 - 0)) ⟨1, 0, 0, 1⟩).Z2 = 0
    cases bitB K (254 - 0)
    · exact ⟨dZ_ten, sZ_zero _ _ _ _ 0 rfl⟩
    · exact ⟨sZ_zero _ _ _ _ 0 rfl, dZ_one⟩
  | j + 2, _ => by
    have h := lad_zero K (j + 1) (by omega)
    show (stepS 0 (bitB K (254 - (j + 1))) (lad 0 K (j + 1))).Z1 = 0 ∧ (stepS 0 (bitB K (254 - (j + 1))) (lad 0 K (j + 1))).Z2 = 0
    cases bitB K (254 - (j + 1))
    · exact ⟨dZ_zero _ _ h.1, sZ_zero _ _ _ _ 0 rfl⟩
    · exact ⟨sZ_zero _ _ _ _ 0 rfl, dZ_zero _ _ h.2⟩
theorem tZ_zero (x z : Fp) (hz : z = 0) : tZ x z = 0 := by unfold tZ; grind
theorem rZ_zero (a b c d z : Fp) (hz : z = 0) : rZ z a b c d = 0 := by
  subst hz
  unfold rZ
  exact zero_mul' _
theorem rlad_zero {K : Nat} (hK : K < 2 ^ 255) : ∀ j, 1 ≤ j → (rlad 0 K j).Z1 = 0 ∧ (rlad 0 K j).Z2 = 0
  | 0, h => absurd h (by omega)
  | 1, _ => by
    show (rstep 0 (bitB K (255 - 0)) ⟨1, 0, 0, 1⟩).Z1 = 0 ∧ (rstep 0 (bitB K (255 - 0)) ⟨1, 0, 0, 1⟩).Z2 = 0
    rw [first_bit hK]
    exact ⟨tZ_zero _ _ rfl, rZ_zero _ _ _ _ 0 rfl⟩
  | j + 2, _ => by
    have h := rlad_zero hK (j + 1) (by omega)
    show (rstep 0 (bitB K (255 - (j + 1))) (rlad 0 K (j + 1))).Z1 = 0 ∧ (rstep 0 (bitB K (255 - (j + 1))) (rlad 0 K (j + 1))).Z2 = 0
    cases bitB K (255 - (j + 1))
    · exact ⟨tZ_zero _ _ h.1, rZ_zero _ _ _ _ 0 rfl⟩
    · exact ⟨rZ_zero _ _ _ _ 0 rfl, tZ_zero _ _ h.2⟩
theorem quot_eq {k x z i j : Fp} (h1 : k * z * i = 1) (h2 : z * j = 1) : k * x * i = x * j := by grind
theorem Pr.out {s r : St} (h : Pr s r) : s.X1 * Fp.inv s.Z1 = r.X1 * Fp.inv r.Z1 := by
  obtain ⟨k, hk, e1, e2⟩ := h.a
  rw [e1, e2]
  by_cases hz : r.Z1 = 0
  · rw [hz, mul_zero' k 0 rfl, Fp.inv_zero, mul_zero' _ 0 rfl, mul_zero' _ 0 rfl]
  · exact quot_eq (Fp.mul_inv (Fp.mul_ne hk hz)) (Fp.mul_inv hz)
theorem ref_eq {K : Nat} (hK : K < 2 ^ 255) (u : Fp) : refF K u = multF K u := by
  by_cases hu : u = 0
  · subst hu
    unfold refF multF
    rw [(rlad_zero hK 256 (by omega)).1, (lad_zero K 255 (by omega)).1, Fp.inv_zero, mul_zero' _ 0 rfl, mul_zero' _ 0 rfl]
  · exact (Pr.all hK hu 255 (Nat.le_refl _)).out.symm
end Ed
end Go.Proofs.YtkhdhiddhnmdkaaGreatDoor

namespace Go.Proofs.YtkhdhiddhnmdkaaGreatDoor
open Go.RowKit

abbrev tP : TypeId := 83
def zero10 : List Nat := [0, 0, 0, 0, 0, 0, 0, 0, 0, 0]
theorem pt_size : (Tryz.prog.info? tP).map (·.size) = some 10 := by kernel_rfl
theorem run_alloc_pt (w : World) : (Instr.alloc tP true (.tuple #[])).run Tryz.prog w = .ok (.pointer (some ⟨w.heap.size, 0, none⟩)) (w.alloc (.cells (uvals zero10).toArray tP)) := by kernel_rfl
theorem bld (l m : List Nat) (hl : l.length = 5) (hm : m.length = 5) (w : World) : (Instr.build tP #[(0, .agg (uvals l).toArray), (1, .agg (uvals m).toArray)]).run Tryz.prog w = .ok (.agg (uvals (l ++ m)).toArray) w := by
  obtain ⟨a, b, c, d, e, rfl⟩ := five l hl
  obtain ⟨a', b', c', d', e', rfl⟩ := five m hm
  exact run_build w tP _ _ (by kernel_rfl)
/-- a point's block -/
def PB (w : World) (b : Nat) (l m : List Nat) : Prop := Blk w b tP (uvals (l ++ m)) ∧ l.length = 5 ∧ m.length = 5
theorem uvals_append (l m : List Nat) : uvals (l ++ m) = uvals l ++ uvals m := by simp [uvals]
theorem PB.below {w w' : World} {b : Nat} {l m : List Nat} (h : PB w b l m) (hb : Below w.heap.size w w') : PB w' b l m := ⟨h.1.below hb h.1.lt, h.2⟩
theorem PB.lt {w : World} {b : Nat} {l m : List Nat} (h : PB w b l m) : b < w.heap.size := h.1.lt
theorem PB.keeps {w w' : World} {b : Nat} {l m : List Nat} {F : Nat → Prop} (h : PB w b l m) (hk : Keeps F w w') (hn : ¬ F b) : PB w' b l m := ⟨hk.blk h.1 hn, h.2⟩
theorem PB.x {w : World} {b : Nat} {l m : List Nat} (h : PB w b l m) : w.rangeAt b 0 (uvals l) := fun j v hv => by
  refine h.1.cell (0 + j) v ?_
  rw [Nat.zero_add, uvals_append, List.getElem?_append_left (by have := (List.getElem?_eq_some_iff.1 hv).1; exact this)]
  exact hv
theorem PB.z {w : World} {b : Nat} {l m : List Nat} (h : PB w b l m) : w.rangeAt b 5 (uvals m) := fun j v hv => by
  refine h.1.cell (5 + j) v ?_
  have e : (uvals l).length = 5 := by rw [uvals_len]; exact h.2.1
  rw [uvals_append, List.getElem?_append_right (by omega), e, Nat.add_sub_cancel_left]
  exact hv
theorem PB.len {w : World} {b : Nat} {l m : List Nat} (h : PB w b l m) : (uvals (l ++ m)).length = 10 := by rw [uvals_len, List.length_append, h.2.1, h.2.2]
theorem Keeps.row {F : Nat → Prop} {a w : World} (h : Keeps F a w) (b : Nat) (r : Array Value) (hb : b < a.heap.size → F b) : Keeps F a (w.setRow b r) :=
  ⟨h.os, h.tape, h.output, by simpa using h.size, fun i hi hn => (setRow_other _ _ _ _ (fun e => hn (by subst e; exact hb hi))).trans (h.block i hi hn)⟩
/-- a point's block, by its two numbers -/
def Pk (w : World) (b : Nat) (X Z : Fp) : Prop := ∃ l m, PB w b l m ∧ Lm l X.val ∧ Lm m Z.val
theorem Pk.below {w w' : World} {b : Nat} {X Z : Fp} (h : Pk w b X Z) (hb : Below w.heap.size w w') : Pk w' b X Z := let ⟨l, m, h1, h2, h3⟩ := h; ⟨l, m, h1.below hb, h2, h3⟩
theorem Pk.keeps {w w' : World} {b : Nat} {X Z : Fp} {F : Nat → Prop} (h : Pk w b X Z) (hk : Keeps F w w') (hn : ¬ F b) : Pk w' b X Z := let ⟨l, m, h1, h2, h3⟩ := h; ⟨l, m, h1.keeps hk hn, h2, h3⟩
theorem load_mid {ops : Array Oper} {rest : List Oper} {o : Oper} {a : Act} {w : World} {Q : Exit → Act → World → Prop} {b k : Nat} {x : Operand} {l : List Nat} (hr : w.rangeAt b k (uvals l)) (hl : l.length = 5)
    (hg : Region.wanted o (yielded ops a.tmps) = true) (ho : o.op = .load tE x) (hx : a.eval x = .pointer (some ⟨b, k, none⟩)) (h : wpList Tryz.prog ops Q rest (a.put o.dst (.agg (uvals l).toArray)) w) : wpList Tryz.prog ops Q (o :: rest) a w := by
  unfold wpList
  rw [if_pos hg]
  refine .inl ?_
  unfold Oper.wp execOp
  simp only [ho, hx, run_loadAt_mid w b k tE (uvals l) _ hr Tryz.underlying70 rfl (by rw [elem_size]; simp [uvals_len, hl]), Sem.run_bind, Sem.run_pure, Result.andThen_ok]
  exact h
theorem load_pt {ops : Array Oper} {rest : List Oper} {o : Oper} {a : Act} {w : World} {Q : Exit → Act → World → Prop} {b : Nat} {x : Operand} {l m : List Nat} (hb : PB w b l m)
    (hg : Region.wanted o (yielded ops a.tmps) = true) (ho : o.op = .load tP x) (hx : a.eval x = .pointer (some ⟨b, 0, none⟩)) (h : wpList Tryz.prog ops Q rest (a.put o.dst (.agg (uvals (l ++ m)).toArray)) w) : wpList Tryz.prog ops Q (o :: rest) a w := by
  unfold wpList
  rw [if_pos hg]
  exact .inl (wp_load_row tP x ho b hx tP _ (0, 0) _ hb.1 Tryz.underlying83 rfl (by rw [pt_size]; simp [hb.len]) h)
/-! drift -/
theorem drift_loadM {ops : Array Oper} {w0 : World} {a : Act} {o : Oper} {K : Act → Prop} {b k : Nat} {x : Operand} {l : List Nat} (hr : ∀ w, Rw w0 w → w.rangeAt b k (uvals l)) (hl : l.length = 5)
    (hg : Region.wanted o (yielded ops a.tmps) = true) (ho : o.op = .load tE x) (hx : a.eval x = .pointer (some ⟨b, k, none⟩)) (h : K (a.put o.dst (.agg (uvals l).toArray))) :
    if Region.wanted o (yielded ops a.tmps) then ∃ v, (∀ w, Rw w0 w → o.quietAt Tryz.prog a (Rw w) w v) ∧ K (a.put o.dst v) else K (a.put o.dst undef) :=
  drift_plain (.agg (uvals l).toArray) hg (fun w hw => by
    unfold execOp
    simp only [ho, hx, run_loadAt_mid w b k tE (uvals l) _ (hr w hw) Tryz.underlying70 rfl (by rw [elem_size]; simp [uvals_len, hl]), Sem.run_bind, Sem.run_pure, Result.andThen_ok]) h
theorem quiet_loadM {ops : Array Oper} {C : World → Prop} {a : Act} {o : Oper} {K : Act → Prop} {b k : Nat} {x : Operand} {l : List Nat} (hr : ∀ w, C w → w.rangeAt b k (uvals l)) (hl : l.length = 5)
    (hg : Region.wanted o (yielded ops a.tmps) = true) (ho : o.op = .load tE x) (hx : a.eval x = .pointer (some ⟨b, k, none⟩)) (h : K (a.put o.dst (.agg (uvals l).toArray))) :
    if Region.wanted o (yielded ops a.tmps) then o.quiet Tryz.prog a C K else K (a.put o.dst undef) :=
  quiet_plainG (.agg (uvals l).toArray) hg (fun w hw => by
    unfold execOp
    simp only [ho, hx, run_loadAt_mid w b k tE (uvals l) _ (hr w hw) Tryz.underlying70 rfl (by rw [elem_size]; simp [uvals_len, hl]), Sem.run_bind, Sem.run_pure, Result.andThen_ok]) h
theorem quiet_loadP {ops : Array Oper} {C : World → Prop} {a : Act} {o : Oper} {K : Act → Prop} {b : Nat} {x : Operand} {l m : List Nat} (hb : ∀ w, C w → PB w b l m)
    (hg : Region.wanted o (yielded ops a.tmps) = true) (ho : o.op = .load tP x) (hx : a.eval x = .pointer (some ⟨b, 0, none⟩)) (h : K (a.put o.dst (.agg (uvals (l ++ m)).toArray))) :
    if Region.wanted o (yielded ops a.tmps) then o.quiet Tryz.prog a C K else K (a.put o.dst undef) :=
  quiet_plainG (.agg (uvals (l ++ m)).toArray) hg (fun w hw => by
    unfold execOp
    simp only [ho, hx, Instr.loadAt, Instr.sureAddr, Sem.run_bind, Sem.run_pure, Result.andThen_ok, run_loadVar_row w b tP tP (uvals (l ++ m)).toArray (0, 0) _ (hb w hw).1 Tryz.underlying83 rfl (by rw [pt_size]; simp [(hb w hw).len])]) h
theorem run_bld {a : Act} {o : Oper} {x y : Operand} {l m : List Nat} (ho : o.op = .build tP #[(0, x), (1, y)]) (hx : a.eval x = .agg (uvals l).toArray) (hy : a.eval y = .agg (uvals m).toArray) (hl : l.length = 5) (hm : m.length = 5) (w : World) :
    (execOp a.eval o).run Tryz.prog w = .ok (.value (.agg (uvals (l ++ m)).toArray)) w := by
  have h := bld l m hl hm w
  unfold execOp
  simp only [ho]
  simp [hx, hy, h]
theorem drift_build {ops : Array Oper} {w0 : World} {a : Act} {o : Oper} {K : Act → Prop} {x y : Operand} {l m : List Nat} (hl : l.length = 5) (hm : m.length = 5) (hg : Region.wanted o (yielded ops a.tmps) = true) (ho : o.op = .build tP #[(0, x), (1, y)])
    (hx : a.eval x = .agg (uvals l).toArray) (hy : a.eval y = .agg (uvals m).toArray) (h : K (a.put o.dst (.agg (uvals (l ++ m)).toArray))) :
    if Region.wanted o (yielded ops a.tmps) then ∃ v, (∀ w, Rw w0 w → o.quietAt Tryz.prog a (Rw w) w v) ∧ K (a.put o.dst v) else K (a.put o.dst undef) :=
  drift_plain _ hg (fun w _ => run_bld ho hx hy hl hm w) h
theorem quiet_build {ops : Array Oper} {C : World → Prop} {a : Act} {o : Oper} {K : Act → Prop} {x y : Operand} {l m : List Nat} (hl : l.length = 5) (hm : m.length = 5) (hg : Region.wanted o (yielded ops a.tmps) = true) (ho : o.op = .build tP #[(0, x), (1, y)])
    (hx : a.eval x = .agg (uvals l).toArray) (hy : a.eval y = .agg (uvals m).toArray) (h : K (a.put o.dst (.agg (uvals (l ++ m)).toArray))) :
    if Region.wanted o (yielded ops a.tmps) then o.quiet Tryz.prog a C K else K (a.put o.dst undef) :=
  quiet_plainG _ hg (fun w _ => run_bld ho hx hy hl hm w) h
section
variable {ops : Array Oper} {w0 : World} {K : Act → World → Prop}
theorem driftT_alloc {t : TypeId} {z : List Nat} {o : Oper} {rest : List Oper} {a : Act} {w : World} {d : Tmp} (hal : ∀ w, (Instr.alloc t true (.tuple #[])).run Tryz.prog w = .ok (.pointer (some ⟨w.heap.size, 0, none⟩)) (w.alloc (.cells (uvals z).toArray t)))
    (hw0 : Rw w0 w) (hg : o.guard = none) (ha : o.op = .alloc t) (hd : o.dst = some d) (h : ∀ c w', Rw w w' → w.heap.size ≤ c → Blk w' c t (uvals z) → wpListD Tryz.prog ops w0 K rest (a.put (some d) (.pointer (some ⟨c, 0, none⟩))) w') :
    wpListD Tryz.prog ops w0 K (o :: rest) a w := by
  refine driftT_make (G := fun v w' => ∃ c, v = .pointer (some ⟨c, 0, none⟩) ∧ w.heap.size ≤ c ∧ Blk w' c t (uvals z)) hw0 (by simp [Region.wanted, hg]) (fun w1 h1 => ?_) ?_
  · refine ⟨_, _, ?_, (Below.refl _ _).alloc (Nat.le_refl _) _, ⟨w1.heap.size, rfl, h1.size, Blk.new w1 t (uvals z)⟩⟩
    unfold execOp
    simp only [ha, Sem.run_bind, hal w1, Result.andThen_ok, Sem.run_pure]
  · rintro v w' hw ⟨c, rfl, hc, hb⟩
    rw [hd]
    exact h c w' hw hc hb
/-- a store into a block of the region's own -/
theorem driftT_store {t : TypeId} {n : Nat} {old l : List Nat} {o : Oper} {rest : List Oper} {a : Act} {w : World} {b : Nat} {x y : Operand} (hw0 : Rw w0 w) (hsz : (Tryz.prog.info? t).map (·.size) = some n) (hb : Blk w b t (uvals old)) (hold : old.length = n) (hl : l.length = n)
    (hnew : w0.heap.size ≤ b) (hg : o.guard = none) (hds : o.dst = none) (ho : o.op = .store t x y) (hx : a.eval x = .pointer (some ⟨b, 0, none⟩)) (hy : a.eval y = .agg (uvals l).toArray)
    (h : ∀ w', Rw w0 w' → Keeps (fun k => k = b) w w' → Blk w' b t (uvals l) → wpListD Tryz.prog ops w0 K rest a w') : wpListD Tryz.prog ops w0 K (o :: rest) a w := by
  refine driftT_step (fun w1 h1 Q' hQ' => ?_)
  have hb1 : Blk w1 b t (uvals old) := hb.below h1 hb.lt
  have hW1 := Rw.trans hw0 h1
  refine store_blk (n := n) (t := t) (b := b) (old := uvals old) (cs := uvals l) hb1 hsz (by rw [uvals_len, hl]) (by rw [uvals_len, hold]) (uvals_one l) hg ho hx hy ?_
  have hW2 : Rw w0 (w1.setRow b (uvals l).toArray) := below_row hW1 _ _ hnew
  refine hQ' _ _ hW2 ?_
  rw [hds]
  refine h _ hW2 ?_ (hb1.setRow _)
  have hk : Keeps (fun k => k = b) w w1 := ⟨h1.os, h1.tape, h1.output, h1.size, fun k hk _ => h1.block k hk⟩
  exact ⟨hk.os, hk.tape, hk.output, by simpa using hk.size, fun k hlt hne => (setRow_other _ _ _ _ (fun e => hne e)).trans (hk.block k hlt hne)⟩
end
end Go.Proofs.YtkhdhiddhnmdkaaGreatDoor
