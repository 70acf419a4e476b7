/-
The field's calls in the laws' hands: an element, a number of the document's, told by one element of F_p.
-/
import Derived.Test.YtopelehfffjfeaaFAwake
import Derived.Test.YtopelehfffjfeaaFp
namespace Go.Proofs.Ytopelehfffjfeaa
open Go.RowKit

/-- the value v is the element x -/
def El (v : Value) (x : Fp) : Prop := ∃ l, v = .agg (uvals l).toArray ∧ Lm l x.val
theorem Lm.cast {l : List Nat} {x y : Nat} (h : Lm l x) (e : x = y) : Lm l y := e ▸ h
theorem val_add (x y : Fp) : (x.val + y.val) % pP = (x + y).val := (Fin.val_add ..).symm
theorem val_mul (x y : Fp) : x.val * y.val % pP = (x * y).val := (Fin.val_mul ..).symm
theorem val_sub (x y : Fp) : (x.val + (pP - y.val)) % pP = (x - y).val := by rw [Fin.val_sub, Nat.add_comm]
theorem val_neg (x : Fp) : (pP - x.val) % pP = (-x).val := (Fin.val_neg' ..).symm
theorem val_small (n : Nat) : n % pP = (Fp.ofN n).val := rfl
theorem val_pow (x : Fp) (n : Nat) : x.val ^ n % pP = (x ^ n).val := by
  have h := congrArg Fin.val (Fp.ofN_pow x.val n)
  rw [Fp.ofN_val] at h
  exact h
/-- the number of a string's bytes -/
def fpOf (s : ByteArray) : Fp := Fp.ofN (ofB s % 2 ^ 255)

abbrev Gives (w : World) (x : Fp) : Ending → World → Prop := fun e w' => ∃ v, e = .returned v ∧ El v x ∧ Below w.heap.size w w'
abbrev Tells (w : World) (b : Bool) : Ending → World → Prop := fun e w' => e = .returned (.bool b) ∧ Below w.heap.size w w'
abbrev Numbers (w : World) (n : Nat) : Ending → World → Prop := fun e w' => ∃ v, e = .returned v ∧ Num w' v n ∧ Below w.heap.size w w'
theorem gives {f : FuncId} {args : Array Value} {w : World} {l : List Nat} {x : Fp} (h : Calls Try.prog f args w fun e w' => e = .returned (ev l) ∧ Below w.heap.size w w') (hl : Lm l x.val) : Calls Try.prog f args w (Gives w x) :=
  h.mono fun _ _ ⟨he, hb⟩ => ⟨_, he, ⟨l, rfl, hl⟩, hb⟩
theorem tells {f : FuncId} {args : Array Value} {w : World} {b c : Bool} (h : Calls Try.prog f args w fun e w' => e = .returned (.bool b) ∧ Below w.heap.size w w') (hb : b = c) : Calls Try.prog f args w (Tells w c) := hb ▸ h
theorem elOf (s : ByteArray) (w : World) : Calls Try.prog 16 #[.string s] w (Gives w (fpOf s)) := gives (of_el s w) (Lm.ofN (ofB s))
theorem elSmall (n : Nat) (w : World) (h : n < 18446744073709551616) : Calls Try.prog 21 #[.int .u64 n] w (Gives w (Fp.ofN n)) := gives (el_small_ok n w h) (Lm.smallN n (by simpa using h))
theorem elAdd {v u : Value} {x y : Fp} (hv : El v x) (hu : El u y) (w : World) : Calls Try.prog 27 #[v, u] w (Gives w (x + y)) := by
  obtain ⟨a, rfl, ha⟩ := hv
  obtain ⟨b, rfl, hb⟩ := hu
  exact gives (el_add_ok a b w ha.len hb.len ha.small hb.small) ((ha.add hb).cast (val_add x y))
theorem elSub {v u : Value} {x y : Fp} (hv : El v x) (hu : El u y) (w : World) : Calls Try.prog 28 #[v, u] w (Gives w (x - y)) := by
  obtain ⟨a, rfl, ha⟩ := hv
  obtain ⟨b, rfl, hb⟩ := hu
  exact gives (el_sub_ok a b w ha.len hb.len ha.small hb.small) ((ha.sub hb).cast (val_sub x y))
theorem elMul {v u : Value} {x y : Fp} (hv : El v x) (hu : El u y) (w : World) : Calls Try.prog 26 #[v, u] w (Gives w (x * y)) := by
  obtain ⟨a, rfl, ha⟩ := hv
  obtain ⟨b, rfl, hb⟩ := hu
  exact gives (el_mul_ok a b w ha.own hb.own) ((ha.mul hb).cast (val_mul x y))
theorem elNeg {v : Value} {x : Fp} (hv : El v x) (w : World) : Calls Try.prog 31 #[v] w (Gives w (-x)) := by
  obtain ⟨a, rfl, ha⟩ := hv
  exact gives (el_neg_ok a w ha.len ha.small) (ha.neg.cast (val_neg x))
theorem elSquare {v : Value} {x : Fp} (hv : El v x) (w : World) : Calls Try.prog 33 #[v] w (Gives w (x * x)) := by
  obtain ⟨a, rfl, ha⟩ := hv
  exact gives (el_square_ok a w ha.own) ((ha.mul ha).cast (val_mul x x))
theorem inv_exp : expN 21 / 2 ^ (255 - 255) = pP - 2 := by decide
theorem Lm.inv {a : List Nat} {x : Fp} (ha : Lm a x.val) : Lm (invN a) (Fp.inv x).val := by
  have h := ha.pow (expN 21) (expN_lt 21 (by omega)) 255 (Nat.le_refl _)
  rw [inv_exp] at h
  exact h.cast (val_pow x _)
theorem elInvert {v : Value} {x : Fp} (hv : El v x) (w : World) : Calls Try.prog 23 #[v] w (Gives w (Fp.inv x)) := by
  obtain ⟨a, rfl, ha⟩ := hv
  exact gives (el_invert_ok a w ha.own) ha.inv
theorem elSame {v u : Value} {x y : Fp} (hv : El v x) (hu : El u y) (w : World) : Calls Try.prog 25 #[v, u] w (Tells w (decide (x = y))) := by
  obtain ⟨a, rfl, ha⟩ := hv
  obtain ⟨b, rfl, hb⟩ := hu
  exact tells (el_same_ok a b w ha.len hb.len ha.small hb.small) ((ha.same hb).trans (decide_eq_decide.2 Fin.val_inj))
theorem elZero {v : Value} {x : Fp} (hv : El v x) (w : World) : Calls Try.prog 20 #[v] w (Tells w (decide (x = 0))) := by
  obtain ⟨a, rfl, ha⟩ := hv
  exact tells (el_zero_ok a w ha.len ha.small) (ha.zeroN.trans (decide_eq_decide.2 (show x.val = (0 : Fp).val ↔ _ from Fin.val_inj)))
theorem elOdd {v : Value} {x : Fp} (hv : El v x) (w : World) : Calls Try.prog 18 #[v] w (Tells w (decide (x.val % 2 = 1))) := by
  obtain ⟨a, rfl, ha⟩ := hv
  exact tells (el_odd_ok a w ha.len ha.small) ha.odd
theorem elChoose {v u : Value} {x y : Fp} (c : Bool) (hv : El v x) (hu : El u y) (w : World) : Calls Try.prog 35 #[.bool c, v, u] w (Gives w (if c then x else y)) := by
  obtain ⟨a, rfl, ha⟩ := hv
  obtain ⟨b, rfl, hb⟩ := hu
  exact gives (el_choose_ok c a b w ha.len hb.len) (by cases c; exact hb; exact ha)
/-- is it the document's? -/
theorem elIs {v u : Value} {x : Fp} {y : Nat} {w : World} (hv : El v x) (hu : Num w u y) (hy : y < pP) : Calls Try.prog 17 #[v, u] w (Tells w (decide (x.val = y))) := by
  obtain ⟨a, rfl, ha⟩ := hv
  exact is_ok a u x.val y w ha hu hy
theorem elIs' {v u : Value} {x y : Fp} {w : World} (hv : El v x) (hu : Num w u y.val) : Calls Try.prog 17 #[v, u] w (Tells w (decide (x = y))) :=
  tells (elIs hv hu y.isLt) (decide_eq_decide.2 Fin.val_inj)
/-! the document's -/
theorem rfOf (s : ByteArray) (w : World) : Calls Try.prog 15 #[.string s] w (Numbers w (fpOf s).val) := refOf_ok s w
theorem numbers {f : FuncId} {args : Array Value} {w : World} {n m : Nat} (h : Calls Try.prog f args w fun e w' => ∃ v', e = .returned v' ∧ Num w' v' n ∧ Below w.heap.size w w') (e : n = m) : Calls Try.prog f args w (Numbers w m) := e ▸ h
theorem rfAdd {v u : Value} {x y : Fp} {w : World} (hv : Num w v x.val) (hu : Num w u y.val) : Calls Try.prog 29 #[v, u] w (Numbers w (x + y).val) := numbers (refAdd_ok v u _ _ w hv hu x.isLt y.isLt) (val_add x y)
theorem rfSub {v u : Value} {x y : Fp} {w : World} (hv : Num w v x.val) (hu : Num w u y.val) : Calls Try.prog 30 #[v, u] w (Numbers w (x - y).val) := numbers (refSub_ok v u _ _ w hv hu x.isLt y.isLt) (val_sub x y)
theorem rfMul {v u : Value} {x y : Fp} {w : World} (hv : Num w v x.val) (hu : Num w u y.val) : Calls Try.prog 32 #[v, u] w (Numbers w (x * y).val) := numbers (refMul_ok v u _ _ w hv hu x.isLt y.isLt) (val_mul x y)
theorem rfNeg {u : Value} {y : Fp} {w : World} (hu : Num w u y.val) : Calls Try.prog 30 #[.slice none 0 0, u] w (Numbers w (-y).val) := by
  have h := rfSub (x := 0) (num_nil w) hu
  rwa [show (0 : Fp) - y = -y by grind] at h
theorem rfInvert {v : Value} {x : Fp} {w : World} (hv : Num w v x.val) : Calls Try.prog 24 #[v] w (Numbers w (Fp.inv x).val) := numbers (refInvert_ok v _ w hv x.isLt) (val_pow x _)

/-! memory -/
theorem load_el2 {ops : Array Oper} {rest : List Oper} {o : Oper} {a : Act} {w : World} {Q : Exit → Act → World → Prop} {b : Nat} {x : Operand} {l : List Nat} {t : TypeId} (hb : Blk w b t (uvals l)) (hl : l.length = 5)
    (hg : Region.wanted o (yielded ops a.tmps) = true) (ho : o.op = .load 29 x) (hx : a.eval x = .pointer (some ⟨b, 0, none⟩)) (h : wpList Try.prog ops Q rest (a.put o.dst (.agg (uvals l).toArray)) w) : wpList Try.prog ops Q (o :: rest) a w := by
  unfold wpList
  rw [if_pos hg]
  exact .inl (wp_load_row 29 x ho b hx t _ (0, 0) _ hb Try.underlying29 rfl (by rw [elem_size]; simp [uvals_len, hl]) h)
theorem calls_gen {f : FuncId} {args : Array Value} {Q : Ending → World → Prop} {W : World} (R : World → Prop) (h : R W) (k : ∀ w1, R w1 → Calls Try.prog f args w1 Q) : Calls Try.prog f args W Q := k W h
/-- a block that holds an element -/
def At (w : World) (b : Nat) (x : Fp) : Prop := ∃ l, Blk w b tE (uvals l) ∧ Lm l x.val
end Go.Proofs.Ytopelehfffjfeaa
