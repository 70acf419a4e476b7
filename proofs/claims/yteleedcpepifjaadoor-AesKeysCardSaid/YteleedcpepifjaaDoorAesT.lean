/-
The plain mathematics of the blocks: products of bytes, the tables, by trying all bytes.
-/
namespace Go.Proofs.YteleedcpepifjaaDoor.AesP
def tw (b : Nat) : Nat := (b * 2 % 256) ^^^ (b / 128 * 27)
def mulR (a b : Nat) : Nat → Nat → Nat
  | 0, out => out
  | n + 1, out => mulR a b n (if b / 2 ^ n % 2 = 1 then tw out ^^^ a else tw out)
def mul (a b : Nat) : Nat := mulR a b 8 0
def tmF : Nat → Nat → Nat → Nat → Nat
  | 0, out, _, _ => out
  | n + 1, out, a, b => if b = 0 then out else tmF n (out ^^^ a * (b % 2)) (tw a) (b / 2)
def times (a b : Nat) : Nat := tmF 8 0 a b
def powR (x : Nat) : Nat → Nat
  | 0 => 1
  | n + 1 => mul (powR x n) x
def rot (y : Nat) : Nat := if y * 2 > 255 then y * 2 - 255 else y * 2
def affR : Nat → Nat → Nat → Nat
  | 0, out, _ => out
  | n + 1, out, y => affR n (out ^^^ y) (rot y)
/-- the document's Sub -/
def subN (x : Nat) : Nat := affR 5 99 (powR x 254)
/-- the program's powers of 3 -/
def pw : Nat → Nat
  | 0 => 1
  | n + 1 => pw n ^^^ tw (pw n)
def pwL : Nat → List Nat
  | 0 => List.replicate 256 0
  | n + 1 => (pwL n).set n (pw n)
def whL : Nat → List Nat
  | 0 => List.replicate 256 0
  | n + 1 => (whL n).set (pw n) n
def rotl (y n : Nat) : Nat := (y * 2 ^ n % 256) ||| (y / 2 ^ (8 - n))
def invP (b : Nat) : Nat := if b = 0 then 0 else (pwL 255).getD ((255 - (whL 255).getD b 0) % 255) 0
def affP (y : Nat) : Nat → Nat → Nat
  | 0, out => out
  | n + 1, out => affP y n out ^^^ rotl y (n + 1)
def subP (b : Nat) : Nat := affP (invP b) 4 (invP b ^^^ 99)
def sbL : Nat → List Nat
  | 0 => List.replicate 256 0
  | n + 1 => (sbL n).set n (subP n)
def bkL : Nat → List Nat
  | 0 => List.replicate 256 0
  | n + 1 => (bkL n).set (subP n) n
set_option maxRecDepth 100000
theorem times_small : ∀ a : Fin 256, times a 2 = tw a ∧ times a 1 = a ∧ times a 3 = tw a ^^^ a := by decide +kernel
theorem mul_small : ∀ a : Fin 256, mul 2 a = tw a ∧ mul 3 a = tw a ^^^ a ∧ mul a 2 = tw a := by decide +kernel
theorem tw_lt' : ∀ a : Fin 256, tw a < 256 := by decide +kernel
theorem pw_lt' : ∀ i : Fin 256, pw i < 256 := by decide +kernel
theorem inv_fin : ∀ b : Fin 256, powR b 254 = invP b := by decide +kernel
theorem aff_fin : ∀ y : Fin 256, affR 5 99 y = affP y 4 (y ^^^ 99) ∧ affR 5 99 y < 256 := by decide +kernel
theorem invlt_fin : ∀ y : Fin 256, invP y < 256 := by decide +kernel
theorem sb_fin : ∀ b : Fin 256, (sbL 256).getD b 0 = subP b ∧ (bkL 256).getD (subP b) 0 = b ∧ subP ((bkL 256).getD b 0) = b ∧ (bkL 256).getD b 0 < 256 := by decide +kernel
end Go.Proofs.YteleedcpepifjaaDoor.AesP
