/-
The field's calls in the laws' hands: an element, a number of the document's, told by one element of F_p.
Variables of the field's elements that a law makes.
The forced tail of a drawn region, step by step: calls, plain operations, operations that make memory.
The curve -x^2 + y^2 = 1 + d x^2 y^2 over the field of p elements: its points are a group.
-/
import Derived.Test.YtkhdhiddhnmdkaaGreatDoorPk16
import Derived.Test.YtkhdhiddhnmdkaaGreatDoorPk15
import Derived.Test.YtkhdhiddhnmdkaaGreatDoorPk03
namespace Go.Proofs.YtkhdhiddhnmdkaaGreatDoor
open Go.RowKit

/-- the value v is the element x -/
def El (v : Value) (x : Fp) : Prop := ∃ l, v = .agg (uvals l).toArray ∧ Lm l x.val
theorem Lm.cast {l : List Nat} {x y : Nat} (h : Lm l x) (e : x = y) : Lm l y := e ▸ h
theorem val_add (x y : Fp) : (x.val + y.val) % pP = (x + y).val := (Fin.val_add ..).symm
theorem val_mul (x y : Fp) : x.val * y.val % pP = (x * y).val := (Fin.val_mul ..).symm
theorem val_sub (x y : Fp) : (x.val + (pP - y.val)) % pP = (x - y).val := by rw [Fin.val_sub, Nat.add_comm]
theorem val_neg (x : Fp) : (pP - x.val) % pP = (-x).val := (Fin.val_neg' ..).symm
theorem val_small (n : Nat) : n % pP = (Fp.ofN n).val := rfl
theorem val_pow (x : Fp) (n : Nat) : x.val ^ n % pP = (x ^ n).val := by
  have h := congrArg Fin.val (Fp.ofN_pow x.val n)
  rw [Fp.ofN_val] at h
  exact h
/-- the number of a string's bytes -/
def fpOf (s : ByteArray) : Fp := Fp.ofN (ofB s % 2 ^ 255)

abbrev Gives (w : World) (x : Fp) : Ending → World → Prop := fun e w' => ∃ v, e = .returned v ∧ El v x ∧ Below w.heap.size w w'
abbrev Tells (w : World) (b : Bool) : Ending → World → Prop := fun e w' => e = .returned (.bool b) ∧ Below w.heap.size w w'
abbrev Numbers (w : World) (n : Nat) : Ending → World → Prop := fun e w' => ∃ v, e = .returned v ∧ Num w' v n ∧ Below w.heap.size w w'
theorem gives {f : FuncId} {args : Array Value} {w : World} {l : List Nat} {x : Fp} (h : Calls Tryz.prog f args w fun e w' => e = .returned (ev l) ∧ Below w.heap.size w w') (hl : Lm l x.val) : Calls Tryz.prog f args w (Gives w x) :=
  h.mono fun _ _ ⟨he, hb⟩ => ⟨_, he, ⟨l, rfl, hl⟩, hb⟩
theorem tells {f : FuncId} {args : Array Value} {w : World} {b c : Bool} (h : Calls Tryz.prog f args w fun e w' => e = .returned (.bool b) ∧ Below w.heap.size w w') (hb : b = c) : Calls Tryz.prog f args w (Tells w c) := hb ▸ h
theorem elOf (s : ByteArray) (w : World) : Calls Tryz.prog 36 #[.string s] w (Gives w (fpOf s)) := gives (of_el s w) (Lm.ofN (ofB s))
theorem elSmall (n : Nat) (w : World) (h : n < 18446744073709551616) : Calls Tryz.prog 37 #[.int .u64 n] w (Gives w (Fp.ofN n)) := gives (el_small_ok n w h) (Lm.smallN n (by simpa using h))
theorem elAdd {v u : Value} {x y : Fp} (hv : El v x) (hu : El u y) (w : World) : Calls Tryz.prog 58 #[v, u] w (Gives w (x + y)) := by
  obtain ⟨a, rfl, ha⟩ := hv
  obtain ⟨b, rfl, hb⟩ := hu
  exact gives (el_add_ok a b w ha.len hb.len ha.small hb.small) ((ha.add hb).cast (val_add x y))
theorem elSub {v u : Value} {x y : Fp} (hv : El v x) (hu : El u y) (w : World) : Calls Tryz.prog 67 #[v, u] w (Gives w (x - y)) := by
  obtain ⟨a, rfl, ha⟩ := hv
  obtain ⟨b, rfl, hb⟩ := hu
  exact gives (el_sub_ok a b w ha.len hb.len ha.small hb.small) ((ha.sub hb).cast (val_sub x y))
theorem elMul {v u : Value} {x y : Fp} (hv : El v x) (hu : El u y) (w : World) : Calls Tryz.prog 40 #[v, u] w (Gives w (x * y)) := by
  obtain ⟨a, rfl, ha⟩ := hv
  obtain ⟨b, rfl, hb⟩ := hu
  exact gives (el_mul_ok a b w ha.own hb.own) ((ha.mul hb).cast (val_mul x y))
theorem elNeg {v : Value} {x : Fp} (hv : El v x) (w : World) : Calls Tryz.prog 57 #[v] w (Gives w (-x)) := by
  obtain ⟨a, rfl, ha⟩ := hv
  exact gives (el_neg_ok a w ha.len ha.small) (ha.neg.cast (val_neg x))
theorem elSquare {v : Value} {x : Fp} (hv : El v x) (w : World) : Calls Tryz.prog 68 #[v] w (Gives w (x * x)) := by
  obtain ⟨a, rfl, ha⟩ := hv
  exact gives (el_square_ok a w ha.own) ((ha.mul ha).cast (val_mul x x))
theorem inv_exp : expN 21 / 2 ^ (255 - 255) = pP - 2 := by decide
theorem Lm.inv {a : List Nat} {x : Fp} (ha : Lm a x.val) : Lm (invN a) (Fp.inv x).val := by
  have h := ha.pow (expN 21) (expN_lt 21 (by omega)) 255 (Nat.le_refl _)
  rw [inv_exp] at h
  exact h.cast (val_pow x _)
theorem elInvert {v : Value} {x : Fp} (hv : El v x) (w : World) : Calls Tryz.prog 41 #[v] w (Gives w (Fp.inv x)) := by
  obtain ⟨a, rfl, ha⟩ := hv
  exact gives (el_invert_ok a w ha.own) ha.inv
theorem elSame {v u : Value} {x y : Fp} (hv : El v x) (hu : El u y) (w : World) : Calls Tryz.prog 106 #[v, u] w (Tells w (decide (x = y))) := by
  obtain ⟨a, rfl, ha⟩ := hv
  obtain ⟨b, rfl, hb⟩ := hu
  exact tells (el_same_ok a b w ha.len hb.len ha.small hb.small) ((ha.same hb).trans (decide_eq_decide.2 Fin.val_inj))
theorem elZero {v : Value} {x : Fp} (hv : El v x) (w : World) : Calls Tryz.prog 43 #[v] w (Tells w (decide (x = 0))) := by
  obtain ⟨a, rfl, ha⟩ := hv
  exact tells (el_zero_ok a w ha.len ha.small) (ha.zeroN.trans (decide_eq_decide.2 (show x.val = (0 : Fp).val ↔ _ from Fin.val_inj)))
theorem elOdd {v : Value} {x : Fp} (hv : El v x) (w : World) : Calls Tryz.prog 65 #[v] w (Tells w (decide (x.val % 2 = 1))) := by
  obtain ⟨a, rfl, ha⟩ := hv
  exact tells (el_odd_ok a w ha.len ha.small) ha.odd
theorem elChoose {v u : Value} {x y : Fp} (c : Bool) (hv : El v x) (hu : El u y) (w : World) : Calls Tryz.prog 66 #[.bool c, v, u] w (Gives w (if c then x else y)) := by
  obtain ⟨a, rfl, ha⟩ := hv
  obtain ⟨b, rfl, hb⟩ := hu
  exact gives (el_choose_ok c a b w ha.len hb.len) (by cases c; exact hb; exact ha)
/-! the document's -/
theorem numbers {f : FuncId} {args : Array Value} {w : World} {n m : Nat} (h : Calls Tryz.prog f args w fun e w' => ∃ v', e = .returned v' ∧ Num w' v' n ∧ Below w.heap.size w w') (e : n = m) : Calls Tryz.prog f args w (Numbers w m) := e ▸ h
/-! memory -/
theorem load_el2 {ops : Array Oper} {rest : List Oper} {o : Oper} {a : Act} {w : World} {Q : Exit → Act → World → Prop} {b : Nat} {x : Operand} {l : List Nat} {t : TypeId} (hb : Blk w b t (uvals l)) (hl : l.length = 5)
    (hg : Region.wanted o (yielded ops a.tmps) = true) (ho : o.op = .load 70 x) (hx : a.eval x = .pointer (some ⟨b, 0, none⟩)) (h : wpList Tryz.prog ops Q rest (a.put o.dst (.agg (uvals l).toArray)) w) : wpList Tryz.prog ops Q (o :: rest) a w := by
  unfold wpList
  rw [if_pos hg]
  exact .inl (wp_load_row 70 x ho b hx t _ (0, 0) _ hb Tryz.underlying70 rfl (by rw [elem_size]; simp [uvals_len, hl]) h)
/-- a block that holds an element -/
def At (w : World) (b : Nat) (x : Fp) : Prop := ∃ l, Blk w b tE (uvals l) ∧ Lm l x.val
end Go.Proofs.YtkhdhiddhnmdkaaGreatDoor

namespace Go.Proofs.YtkhdhiddhnmdkaaGreatDoor
open Go.RowKit

def oz : Obj := .cells (uvals zero5).toArray tE
theorem P3.rowa {wr w : World} {a b c : List Nat} (h : P3 wr w a b c) (l : List Nat) : P3 (wr.setRow w.heap.size (uvals l).toArray) w l b c :=
  ⟨h.1.setRow _, h.2.1.farRow (by omega) _, h.2.2.1.farRow (by omega) _, below_row h.2.2.2 _ _ (by omega)⟩
theorem P3.rowc {wr w : World} {a b c : List Nat} (h : P3 wr w a b c) (l : List Nat) : P3 (wr.setRow (w.heap.size + 2) (uvals l).toArray) w a b l :=
  ⟨h.1.farRow (by omega) _, h.2.1.farRow (by omega) _, h.2.2.1.setRow _, below_row h.2.2.2 _ _ (by omega)⟩
def P2 (wr w : World) (a b : List Nat) : Prop := Blk wr w.heap.size tE (uvals a) ∧ Blk wr (w.heap.size + 1) tE (uvals b) ∧ Below w.heap.size w wr
theorem P2.start (w : World) (a b : List Nat) : P2 ((w.alloc (.cells (uvals a).toArray tE)).alloc (.cells (uvals b).toArray tE)) w a b := ⟨(Blk.new w _ (uvals a)).alloc _, Blk.new2 _ _ _ (uvals b), below2 _ _ _⟩
theorem P2.below {wr wr' w : World} {a b : List Nat} (h : P2 wr w a b) (hb : Below wr.heap.size wr wr') : P2 wr' w a b := ⟨h.1.below hb h.1.lt, h.2.1.below hb h.2.1.lt, h.2.2.trans (hb.mono h.2.2.size)⟩
theorem P2.rowa {wr w : World} {a b : List Nat} (h : P2 wr w a b) (l : List Nat) : P2 (wr.setRow w.heap.size (uvals l).toArray) w l b := ⟨h.1.setRow _, h.2.1.farRow (by omega) _, below_row h.2.2 _ _ (by omega)⟩
theorem P2.rowb {wr w : World} {a b : List Nat} (h : P2 wr w a b) (l : List Nat) : P2 (wr.setRow (w.heap.size + 1) (uvals l).toArray) w a l := ⟨h.1.farRow (by omega) _, h.2.1.setRow _, below_row h.2.2 _ _ (by omega)⟩
def P1 (wr w : World) (a : List Nat) : Prop := Blk wr w.heap.size tE (uvals a) ∧ Below w.heap.size w wr
theorem P1.start (w : World) (a : List Nat) : P1 (w.alloc (.cells (uvals a).toArray tE)) w a := ⟨Blk.new w _ (uvals a), below1 _ _⟩
theorem P1.below {wr wr' w : World} {a : List Nat} (h : P1 wr w a) (hb : Below wr.heap.size wr wr') : P1 wr' w a := ⟨h.1.below hb h.1.lt, h.2.trans (hb.mono h.2.size)⟩
theorem P1.row {wr w : World} {a : List Nat} (h : P1 wr w a) (l : List Nat) : P1 (wr.setRow w.heap.size (uvals l).toArray) w l := ⟨h.1.setRow _, below_row h.2 _ _ (by omega)⟩
theorem El.of {l : List Nat} {x : Fp} (h : Lm l x.val) : El (.agg (uvals l).toArray) x := ⟨l, rfl, h⟩
theorem alloc_el {ops : Array Oper} {rest : List Oper} {o : Oper} {a : Act} {w : World} {Q : Exit → Act → World → Prop} {d b : Nat} (ha : o.op = .alloc tE) (hg : o.guard = none) (hd : o.dst = some d) (hb : b = w.heap.size)
    (h : wpList Tryz.prog ops Q rest (a.put (some d) (.pointer (some ⟨b, 0, none⟩))) (w.alloc (.cells (uvals zero5).toArray tE))) : wpList Tryz.prog ops Q (o :: rest) a w := by
  refine wpList_plain hg fun K1 hK1 => ?_
  unfold Oper.wp execOp
  simp only [ha, Sem.run_bind, run_alloc_el w, Result.andThen_ok, Sem.run_pure, Oper.upon]
  refine hK1 _ _ ?_
  rw [hd, ← hb]
  exact h
theorem new1 {ops : Array Oper} {rest : List Oper} {o1 s1 : Oper} {a : Act} {w : World} {Q : Exit → Act → World → Prop} {d1 : Nat} {y1 : Operand} {la : List Nat}
    (h1 : o1.op = .alloc tE) (g1 : o1.guard = none) (e1 : o1.dst = some d1) (hs1 : s1.op = .store tE (.tmp d1) y1) (gs1 : s1.guard = none) (l1 : la.length = 5)
    (hy1 : (a.put (some d1) (.pointer (some ⟨w.heap.size, 0, none⟩))).eval y1 = .agg (uvals la).toArray)
    (hx1 : (a.put (some d1) (.pointer (some ⟨w.heap.size, 0, none⟩))).eval (.tmp d1) = .pointer (some ⟨w.heap.size, 0, none⟩))
    (h : ∀ w', P1 w' w la → wpList Tryz.prog ops Q rest ((a.put (some d1) (.pointer (some ⟨w.heap.size, 0, none⟩))).put s1.dst undef) w') : wpList Tryz.prog ops Q (o1 :: s1 :: rest) a w := by
  have Q1 := P1.start w zero5
  refine alloc_el h1 g1 e1 rfl ?_
  refine store_el Q1.1 hz5 (Lib.hid l1) gs1 hs1 hx1 hy1 ?_
  exact h _ (Q1.row la)
theorem new2 {ops : Array Oper} {rest : List Oper} {o1 o2 s1 s2 : Oper} {a a2 a3 : Act} {w : World} {Q : Exit → Act → World → Prop} {d1 d2 : Nat} {y1 y2 : Operand} {la lb : List Nat}
    (h1 : o1.op = .alloc tE) (g1 : o1.guard = none) (e1 : o1.dst = some d1) (h2 : o2.op = .alloc tE) (g2 : o2.guard = none) (e2 : o2.dst = some d2)
    (hs1 : s1.op = .store tE (.tmp d1) y1) (gs1 : s1.guard = none) (l1 : la.length = 5) (hs2 : s2.op = .store tE (.tmp d2) y2) (gs2 : s2.guard = none) (l2 : lb.length = 5)
    (ea : (a.put (some d1) (.pointer (some ⟨w.heap.size, 0, none⟩))).put (some d2) (.pointer (some ⟨w.heap.size + 1, 0, none⟩)) = a2) (hx1 : a2.eval (.tmp d1) = .pointer (some ⟨w.heap.size, 0, none⟩)) (hy1 : a2.eval y1 = .agg (uvals la).toArray)
    (eb : a2.put s1.dst undef = a3) (hx2 : a3.eval (.tmp d2) = .pointer (some ⟨w.heap.size + 1, 0, none⟩)) (hy2 : a3.eval y2 = .agg (uvals lb).toArray)
    (h : ∀ w', P2 w' w la lb → wpList Tryz.prog ops Q rest (a3.put s2.dst undef) w') : wpList Tryz.prog ops Q (o1 :: o2 :: s1 :: s2 :: rest) a w := by
  have Q1 := P2.start w zero5 zero5
  have Q2 := Q1.rowa la
  refine alloc_el h1 g1 e1 rfl ?_
  refine alloc_el h2 g2 e2 (b := w.heap.size + 1) (by simp) ?_
  rw [ea]
  refine store_el Q1.1 hz5 (Lib.hid l1) gs1 hs1 hx1 hy1 ?_
  rw [eb]
  refine store_el Q2.2.1 hz5 (Lib.hid l2) gs2 hs2 hx2 hy2 ?_
  exact h _ (Q2.rowb lb)
theorem new3 {ops : Array Oper} {rest : List Oper} {o1 o2 o3 s1 s2 s3 : Oper} {a a2 a3 a4 : Act} {w : World} {Q : Exit → Act → World → Prop} {d1 d2 d3 : Nat} {y1 y2 y3 : Operand} {la lb lc : List Nat}
    (h1 : o1.op = .alloc tE) (g1 : o1.guard = none) (e1 : o1.dst = some d1) (h2 : o2.op = .alloc tE) (g2 : o2.guard = none) (e2 : o2.dst = some d2) (h3 : o3.op = .alloc tE) (g3 : o3.guard = none) (e3 : o3.dst = some d3)
    (hs1 : s1.op = .store tE (.tmp d1) y1) (gs1 : s1.guard = none) (l1 : la.length = 5) (hs2 : s2.op = .store tE (.tmp d2) y2) (gs2 : s2.guard = none) (l2 : lb.length = 5) (hs3 : s3.op = .store tE (.tmp d3) y3) (gs3 : s3.guard = none) (l3 : lc.length = 5)
    (ea : ((a.put (some d1) (.pointer (some ⟨w.heap.size, 0, none⟩))).put (some d2) (.pointer (some ⟨w.heap.size + 1, 0, none⟩))).put (some d3) (.pointer (some ⟨w.heap.size + 2, 0, none⟩)) = a2)
    (hx1 : a2.eval (.tmp d1) = .pointer (some ⟨w.heap.size, 0, none⟩)) (hy1 : a2.eval y1 = .agg (uvals la).toArray)
    (eb : a2.put s1.dst undef = a3) (hx2 : a3.eval (.tmp d2) = .pointer (some ⟨w.heap.size + 1, 0, none⟩)) (hy2 : a3.eval y2 = .agg (uvals lb).toArray)
    (ec : a3.put s2.dst undef = a4) (hx3 : a4.eval (.tmp d3) = .pointer (some ⟨w.heap.size + 2, 0, none⟩)) (hy3 : a4.eval y3 = .agg (uvals lc).toArray)
    (h : ∀ w', P3 w' w la lb lc → wpList Tryz.prog ops Q rest (a4.put s3.dst undef) w') : wpList Tryz.prog ops Q (o1 :: o2 :: o3 :: s1 :: s2 :: s3 :: rest) a w := by
  have Q1 := P3.start w zero5 zero5
  have Q2 := Q1.rowa la
  have Q3 := Q2.rowb lb
  refine alloc_el h1 g1 e1 rfl ?_
  refine alloc_el h2 g2 e2 (b := w.heap.size + 1) (by simp) ?_
  refine alloc_el h3 g3 e3 (b := w.heap.size + 2) (by simp) ?_
  rw [ea]
  refine store_el Q1.1 hz5 (Lib.hid l1) gs1 hs1 hx1 hy1 ?_
  rw [eb]
  refine store_el Q2.2.1 hz5 (Lib.hid l2) gs2 hs2 hx2 hy2 ?_
  rw [ec]
  refine store_el Q3.2.2.1 hz5 (Lib.hid l3) gs3 hs3 hx3 hy3 ?_
  exact h _ (Q3.rowc lc)
theorem cmp_off {x y : Nat} (h : x ≠ y) : cmpOf x y = -1 ∨ cmpOf x y = 1 := by
  unfold cmpOf
  split
  · exact .inl rfl
  · exact .inr (if_pos (by omega))
/-! answers named ahead, for quiet walks -/
abbrev QC (f : FuncId) (args : Array Value) (v : Value) : Prop := ∀ w : World, Calls Tryz.prog f args w fun e w' => e = .returned v ∧ Below w.heap.size w w'
theorem qAdd {a b : List Nat} {x y : Fp} (ha : Lm a x.val) (hb : Lm b y.val) : ∃ l, Lm l (x + y).val ∧ QC 58 #[.agg (uvals a).toArray, .agg (uvals b).toArray] (.agg (uvals l).toArray) :=
  ⟨_, (ha.add hb).cast (val_add x y), fun w => el_add_ok a b w ha.len hb.len ha.small hb.small⟩
theorem qSub {a b : List Nat} {x y : Fp} (ha : Lm a x.val) (hb : Lm b y.val) : ∃ l, Lm l (x - y).val ∧ QC 67 #[.agg (uvals a).toArray, .agg (uvals b).toArray] (.agg (uvals l).toArray) :=
  ⟨_, (ha.sub hb).cast (val_sub x y), fun w => el_sub_ok a b w ha.len hb.len ha.small hb.small⟩
theorem qMul {a b : List Nat} {x y : Fp} (ha : Lm a x.val) (hb : Lm b y.val) : ∃ l, Lm l (x * y).val ∧ QC 40 #[.agg (uvals a).toArray, .agg (uvals b).toArray] (.agg (uvals l).toArray) :=
  ⟨_, (ha.mul hb).cast (val_mul x y), fun w => el_mul_ok a b w ha.own hb.own⟩
theorem qNeg {a : List Nat} {x : Fp} (ha : Lm a x.val) : ∃ l, Lm l (-x).val ∧ QC 57 #[.agg (uvals a).toArray] (.agg (uvals l).toArray) :=
  ⟨_, ha.neg.cast (val_neg x), fun w => el_neg_ok a w ha.len ha.small⟩
theorem qSquare {a : List Nat} {x : Fp} (ha : Lm a x.val) : ∃ l, Lm l (x * x).val ∧ QC 68 #[.agg (uvals a).toArray] (.agg (uvals l).toArray) :=
  ⟨_, (ha.mul ha).cast (val_mul x x), fun w => el_square_ok a w ha.own⟩
theorem qInvert {a : List Nat} {x : Fp} (ha : Lm a x.val) : ∃ l, Lm l (Fp.inv x).val ∧ QC 41 #[.agg (uvals a).toArray] (.agg (uvals l).toArray) :=
  ⟨_, ha.inv, fun w => el_invert_ok a w ha.own⟩
theorem qChoose (c : Bool) {a b : List Nat} {x y : Fp} (ha : Lm a x.val) (hb : Lm b y.val) : ∃ l, Lm l (if c then x else y).val ∧ QC 66 #[.bool c, .agg (uvals a).toArray, .agg (uvals b).toArray] (.agg (uvals l).toArray) :=
  ⟨_, by cases c; exact hb; exact ha, fun w => el_choose_ok c a b w ha.len hb.len⟩
theorem qSmall (n : Nat) (h : n < 18446744073709551616) : ∃ l, Lm l (Fp.ofN n).val ∧ QC 37 #[.int .u64 n] (.agg (uvals l).toArray) :=
  ⟨_, Lm.smallN n (by simpa using h), fun w => el_small_ok n w h⟩
theorem qSmall1 : ∃ l, Lm l (1 : Fp).val ∧ QC 37 #[.int .u64 1] (.agg (uvals l).toArray) := qSmall 1 (by decide)
theorem qSame {a b : List Nat} {x y : Fp} {c : Bool} (ha : Lm a x.val) (hb : Lm b y.val) (h : decide (x = y) = c) : QC 106 #[.agg (uvals a).toArray, .agg (uvals b).toArray] (.bool c) :=
  fun w => tells (elSame ⟨a, rfl, ha⟩ ⟨b, rfl, hb⟩ w) h
theorem qZero {a : List Nat} {x : Fp} {c : Bool} (ha : Lm a x.val) (h : decide (x = 0) = c) : QC 43 #[.agg (uvals a).toArray] (.bool c) := fun w => tells (elZero ⟨a, rfl, ha⟩ w) h
theorem qOdd {a : List Nat} {x : Fp} {c : Bool} (ha : Lm a x.val) (h : decide (x.val % 2 = 1) = c) : QC 65 #[.agg (uvals a).toArray] (.bool c) := fun w => tells (elOdd ⟨a, rfl, ha⟩ w) h
theorem quiet_skip {ops : Array Oper} {C : World → Prop} {a : Act} {o : Oper} {K : Act → Prop} (hg : Region.wanted o (yielded ops a.tmps) = false) (h : K (a.put o.dst undef)) :
    if Region.wanted o (yielded ops a.tmps) then o.quiet Tryz.prog a C K else K (a.put o.dst undef) := by
  rw [if_neg (by rw [hg]; decide)]
  exact h
theorem elSmallC1 (w : World) : Calls Tryz.prog 37 #[.int .u64 1] w (Gives w 1) := elSmall 1 w (by decide)
end Go.Proofs.YtkhdhiddhnmdkaaGreatDoor

namespace Go.Proofs.YtkhdhiddhnmdkaaGreatDoor
open Go.RowKit

variable {P : Program} {ops : Array Oper} {w0 : World}
theorem driftT_nil {K : Act → World → Prop} {a : Act} {w : World} (h : ∀ w1, Rw w w1 → K a w1) : wpListD P ops w0 K [] a w := h
theorem driftT_call {K : Act → World → Prop} {o : Oper} {rest : List Oper} {a : Act} {w : World} {G : Value → World → Prop} (f : FuncId) (args : Array Value) (hw0 : Rw w0 w) (hg : Region.wanted o (yielded ops a.tmps) = true)
    (hv : ∀ w, (execOp a.eval o).run P w = .ok (.enter f args) w) (hc : ∀ w1, Rw w w1 → Calls P f args w1 fun e w' => ∃ v, e = .returned v ∧ G v w' ∧ Below w1.heap.size w1 w')
    (h : ∀ v w', Rw w w' → G v w' → wpListD P ops w0 K rest (a.put o.dst v) w') : wpListD P ops w0 K (o :: rest) a w := by
  intro w1 h1
  simp only [wpList]
  rw [if_pos hg]
  refine .inl ?_
  unfold Oper.wp
  rw [hv w1]
  simp only [Oper.upon]
  refine (hc w1 h1).mono ?_
  rintro e w' ⟨v, rfl, hG, hb⟩
  exact ⟨trivial, Rw.trans hw0 (Rw.trans h1 hb), h v w' (Rw.trans h1 hb) hG⟩
theorem driftT_make {K : Act → World → Prop} {o : Oper} {rest : List Oper} {a : Act} {w : World} {G : Value → World → Prop} (hw0 : Rw w0 w) (hg : Region.wanted o (yielded ops a.tmps) = true)
    (hv : ∀ w1, Rw w w1 → ∃ v w2, (execOp a.eval o).run P w1 = .ok (.value v) w2 ∧ Below w1.heap.size w1 w2 ∧ G v w2)
    (h : ∀ v w', Rw w w' → G v w' → wpListD P ops w0 K rest (a.put o.dst v) w') : wpListD P ops w0 K (o :: rest) a w := by
  intro w1 h1
  simp only [wpList]
  rw [if_pos hg]
  refine .inl ?_
  obtain ⟨v, w2, hr, hb, hG⟩ := hv w1 h1
  unfold Oper.wp
  rw [hr]
  simp only [Oper.upon]
  exact ⟨trivial, Rw.trans hw0 (Rw.trans h1 hb), h v w2 (Rw.trans h1 hb) hG⟩
theorem driftT_plain {K : Act → World → Prop} {o : Oper} {rest : List Oper} {a : Act} {w : World} (v : Value) (hw0 : Rw w0 w) (hg : Region.wanted o (yielded ops a.tmps) = true)
    (hv : ∀ w1, Rw w w1 → (execOp a.eval o).run P w1 = .ok (.value v) w1) (h : ∀ w', Rw w w' → wpListD P ops w0 K rest (a.put o.dst v) w') : wpListD P ops w0 K (o :: rest) a w :=
  driftT_make (G := fun u _ => u = v) hw0 hg (fun w1 h1 => ⟨v, w1, hv w1 h1, Below.refl _ _, rfl⟩) (fun _ w' hw hu => hu ▸ h w' hw)
end Go.Proofs.YtkhdhiddhnmdkaaGreatDoor

namespace Go.Proofs.YtkhdhiddhnmdkaaGreatDoor

namespace Ed
def d : Fp := ⟨(pP - 121665) * pm pP 255 121666 (pP - 2) % pP, Nat.mod_lt _ pP_pos⟩
def i1 : Fp := ⟨pm pP 255 2 ((pP - 1) / 4), by decide +kernel⟩
theorem i1_sq : i1 * i1 = -1 := by decide +kernel
theorem d_def : d * 121666 = -121665 := by decide +kernel
theorem two_ne : (2 : Fp) ≠ 0 := by decide +kernel
theorem n66 : (121666 : Fp) ≠ 0 := by decide +kernel
theorem d_ne : d ≠ 0 := by decide +kernel
theorem d_pow : pm pP 255 d.val ((pP - 1) / 2) = pP - 1 := by decide +kernel
theorem d_no_square (s : Fp) : s * s ≠ d := by
  intro h
  have hs : s ≠ 0 := by
    intro e; rw [e] at h
    exact d_ne (by grind)
  obtain ⟨k, hk⟩ : ∃ k, k = (pP - 1) / 2 := ⟨_, rfl⟩
  have e : pP - 1 = 2 * k := hk ▸ (by decide : pP - 1 = 2 * ((pP - 1) / 2))
  have kb : k < 2 ^ 255 := hk ▸ (by decide : (pP - 1) / 2 < 2 ^ 255)
  have h2 : pm pP 255 d.val k = pP - 1 := hk ▸ d_pow
  clear hk
  have f := Fp.fermat hs
  have h1 : d ^ k = 1 := by
    rw [e] at f
    rw [← h, ← f]
    clear f e kb h2
    induction k with
    | zero => grind
    | succ k ih =>
      rw [show 2 * (k + 1) = 2 * k + 1 + 1 by omega]
      grind
  rw [pm_eq pP 255 _ _ kb] at h2
  have h3 : (Fp.ofN (d.val ^ k)).val = (1 : Fp).val := congrArg Fin.val ((Fp.ofN_pow d.val k).trans (show Fp.ofN d.val ^ k = 1 by rw [Fp.ofN_val]; exact h1))
  have h4 : (Fp.ofN (d.val ^ k)).val = pP - 1 := h2
  rw [h4] at h3
  exact absurd h3 (by decide +kernel)
theorem sq_frac {a q r v u e : Fp} (A : a * a = e * q * q * (r * r)) (hv : q * v = 1) (hu : r * u = 1) : (a * v * u) * (a * v * u) = e := by grind
/-- on the curve -/
def On (x y : Fp) : Prop := d * x * x * y * y = y * y - x * x - 1
theorem complete {x1 y1 x2 y2 e : Fp} (h1 : On x1 y1) (h2 : On x2 y2) (he : e * e = 1) : d * x1 * x2 * y1 * y2 ≠ e := by
  unfold On at h1 h2
  intro h
  have hi := i1_sq
  generalize i1 = i at hi
  have hx : x1 * y1 ≠ 0 := by
    intro h0
    have : e = 0 := by grind
    rw [this] at he
    exact absurd he (by decide +kernel)
  obtain ⟨v, hv⟩ := Fp.has_inv hx
  have A : (i * x1 + e * y1) * (i * x1 + e * y1) = d * (x1 * y1) * (x1 * y1) * ((i * x2 + y2) * (i * x2 + y2)) := by grind
  have B : (i * x1 - e * y1) * (i * x1 - e * y1) = d * (x1 * y1) * (x1 * y1) * ((i * x2 - y2) * (i * x2 - y2)) := by grind
  by_cases ha : i * x2 + y2 = 0
  · by_cases hb : i * x2 - y2 = 0
    · have h3 : 2 * y2 = 0 := by grind
      have h4 : y2 = 0 := (Fp.zero_or h3).resolve_left two_ne
      have : e = 0 := by rw [← h, h4]; grind
      rw [this] at he
      exact absurd he (by decide +kernel)
    · obtain ⟨u, hu⟩ := Fp.has_inv hb
      exact d_no_square _ (sq_frac B hv hu)
  · obtain ⟨u, hu⟩ := Fp.has_inv ha
    exact d_no_square _ (sq_frac A hv hu)
theorem plus_ne {x1 y1 x2 y2 : Fp} (h1 : On x1 y1) (h2 : On x2 y2) : 1 + d * x1 * x2 * y1 * y2 ≠ 0 := fun h => complete (e := -1) h1 h2 (by grind) (by grind)
theorem minus_ne {x1 y1 x2 y2 : Fp} (h1 : On x1 y1) (h2 : On x2 y2) : 1 - d * x1 * x2 * y1 * y2 ≠ 0 := fun h => complete (e := 1) h1 h2 (by grind) (by grind)

structure Pt where
  x : Fp
  y : Fp
  on : On x y
theorem Pt.ext {P Q : Pt} (hx : P.x = Q.x) (hy : P.y = Q.y) : P = Q := by
  cases P; cases Q
  simp only at hx hy
  subst hx; subst hy; rfl
def sx (x1 y1 x2 y2 : Fp) : Fp := (x1 * y2 + x2 * y1) * Fp.inv (1 + d * x1 * x2 * y1 * y2)
def sy (x1 y1 x2 y2 : Fp) : Fp := (y1 * y2 + x1 * x2) * Fp.inv (1 - d * x1 * x2 * y1 * y2)
theorem on_num {d x1 y1 x2 y2 : Fp} (h1 : d * x1 * x1 * y1 * y1 = y1 * y1 - x1 * x1 - 1) (h2 : d * x2 * x2 * y2 * y2 = y2 * y2 - x2 * x2 - 1) :
    d * ((x1 * y2 + x2 * y1) * (x1 * y2 + x2 * y1)) * ((y1 * y2 + x1 * x2) * (y1 * y2 + x1 * x2)) =
      ((y1 * y2 + x1 * x2) * (1 + d * x1 * x2 * y1 * y2)) * ((y1 * y2 + x1 * x2) * (1 + d * x1 * x2 * y1 * y2)) - ((x1 * y2 + x2 * y1) * (1 - d * x1 * x2 * y1 * y2)) * ((x1 * y2 + x2 * y1) * (1 - d * x1 * x2 * y1 * y2))
       - ((1 + d * x1 * x2 * y1 * y2) * (1 - d * x1 * x2 * y1 * y2)) * ((1 + d * x1 * x2 * y1 * y2) * (1 - d * x1 * x2 * y1 * y2)) := by grind
theorem on_frac {d a b p m i j : Fp} (hp : p * i = 1) (hm : m * j = 1) (h : d * (a * a) * (b * b) = (b * p) * (b * p) - (a * m) * (a * m) - (p * m) * (p * m)) :
    d * (a * i) * (a * i) * (b * j) * (b * j) = (b * j) * (b * j) - (a * i) * (a * i) - 1 := by grind
theorem on_sum {x1 y1 x2 y2 : Fp} (h1 : On x1 y1) (h2 : On x2 y2) : On (sx x1 y1 x2 y2) (sy x1 y1 x2 y2) := by
  have hp := Fp.mul_inv (plus_ne h1 h2)
  have hm := Fp.mul_inv (minus_ne h1 h2)
  exact on_frac hp hm (on_num h1 h2)
def add (P Q : Pt) : Pt := ⟨sx P.x P.y Q.x Q.y, sy P.x P.y Q.x Q.y, on_sum P.on Q.on⟩
theorem add_x (P Q : Pt) : (add P Q).x * (1 + d * P.x * Q.x * P.y * Q.y) = P.x * Q.y + Q.x * P.y := by
  have hp := Fp.mul_inv (plus_ne P.on Q.on)
  show (P.x * Q.y + Q.x * P.y) * Fp.inv (1 + d * P.x * Q.x * P.y * Q.y) * _ = _
  generalize 1 + d * P.x * Q.x * P.y * Q.y = k at *
  generalize Fp.inv k = i at *
  grind
theorem add_y (P Q : Pt) : (add P Q).y * (1 - d * P.x * Q.x * P.y * Q.y) = P.y * Q.y + P.x * Q.x := by
  have hp := Fp.mul_inv (minus_ne P.on Q.on)
  show (P.y * Q.y + P.x * Q.x) * Fp.inv (1 - d * P.x * Q.x * P.y * Q.y) * _ = _
  generalize 1 - d * P.x * Q.x * P.y * Q.y = k at *
  generalize Fp.inv k = i at *
  grind
theorem eq_add {P Q R : Pt} (hx : R.x * (1 + d * P.x * Q.x * P.y * Q.y) = P.x * Q.y + Q.x * P.y) (hy : R.y * (1 - d * P.x * Q.x * P.y * Q.y) = P.y * Q.y + P.x * Q.x) : R = add P Q :=
  Pt.ext (Fp.cancel (plus_ne P.on Q.on) (hx.trans (add_x P Q).symm)) (Fp.cancel (minus_ne P.on Q.on) (hy.trans (add_y P Q).symm))
theorem add_comm (P Q : Pt) : add P Q = add Q P := by
  apply eq_add
  · have := add_x P Q; grind
  · have := add_y P Q; grind
theorem on_O (e z o : Fp) (hz : z = 0) (ho : o = 1) : e * z * z * o * o = o * o - z * z - 1 := by grind
def O : Pt := ⟨0, 1, on_O d 0 1 rfl rfl⟩
def negP (P : Pt) : Pt := ⟨-P.x, P.y, by have := P.on; unfold On at *; grind⟩
theorem add_O (P : Pt) : add P O = P := by
  symm; apply eq_add
  · show P.x * (1 + d * P.x * 0 * P.y * 1) = P.x * 1 + 0 * P.y
    grind
  · show P.y * (1 - d * P.x * 0 * P.y * 1) = P.y * 1 + P.x * 0
    grind
theorem O_add (P : Pt) : add O P = P := (add_comm _ _).trans (add_O P)
theorem add_neg (P : Pt) : add P (negP P) = O := by
  symm; apply eq_add
  · show (0 : Fp) * _ = P.x * P.y + -P.x * P.y
    grind
  · have h := P.on
    unfold On at h
    show (1 : Fp) * (1 - d * P.x * -P.x * P.y * P.y) = P.y * P.y + P.x * -P.x
    grind
theorem ax_num {d x1 y1 x2 y2 x3 y3 : Fp} (h1 : d * x1 * x1 * y1 * y1 = y1 * y1 - x1 * x1 - 1) (h2 : d * x2 * x2 * y2 * y2 = y2 * y2 - x2 * x2 - 1) (h3 : d * x3 * x3 * y3 * y3 = y3 * y3 - x3 * x3 - 1) :
    ((x1*y2+x2*y1)*(1-d*x1*x2*y1*y2)*y3+(y1*y2+x1*x2)*(1+d*x1*x2*y1*y2)*x3)*((1-(d*x2*x3*y2*y3)*(d*x2*x3*y2*y3)) + d*(x2*y3+x3*y2)*(y2*y3+x2*x3)*x1*y1)
      = ((x2*y3+x3*y2)*(1-d*x2*x3*y2*y3)*y1+(y2*y3+x2*x3)*(1+d*x2*x3*y2*y3)*x1)*((1-(d*x1*x2*y1*y2)*(d*x1*x2*y1*y2)) + d*(x1*y2+x2*y1)*(y1*y2+x1*x2)*x3*y3) := by grind
theorem ay_num {d x1 y1 x2 y2 x3 y3 : Fp} (h1 : d * x1 * x1 * y1 * y1 = y1 * y1 - x1 * x1 - 1) (h2 : d * x2 * x2 * y2 * y2 = y2 * y2 - x2 * x2 - 1) (h3 : d * x3 * x3 * y3 * y3 = y3 * y3 - x3 * x3 - 1) :
    ((y1*y2+x1*x2)*(1+d*x1*x2*y1*y2)*y3+(x1*y2+x2*y1)*(1-d*x1*x2*y1*y2)*x3)*((1-(d*x2*x3*y2*y3)*(d*x2*x3*y2*y3)) - d*(x2*y3+x3*y2)*(y2*y3+x2*x3)*x1*y1)
      = ((y2*y3+x2*x3)*(1+d*x2*x3*y2*y3)*y1+(x2*y3+x3*y2)*(1-d*x2*x3*y2*y3)*x1)*((1-(d*x1*x2*y1*y2)*(d*x1*x2*y1*y2)) - d*(x1*y2+x2*y1)*(y1*y2+x1*x2)*x3*y3) := by grind
/-- a sum of a sum, without fractions -/
theorem sum_x {d sx sy tx a b x3 y3 p m : Fp} (ha : sx * p = a) (hb : sy * m = b) (ht : tx * (1 + d * sx * x3 * sy * y3) = sx * y3 + x3 * sy) : tx * (p * m + d * a * b * x3 * y3) = a * m * y3 + b * p * x3 := by grind
theorem sum_y {d sx sy ty a b x3 y3 p m : Fp} (ha : sx * p = a) (hb : sy * m = b) (ht : ty * (1 - d * sx * x3 * sy * y3) = sy * y3 + sx * x3) : ty * (p * m - d * a * b * x3 * y3) = b * p * y3 + a * m * x3 := by grind
theorem den_p {d sx sy a b x3 y3 p m : Fp} (ha : sx * p = a) (hb : sy * m = b) (hp : p ≠ 0) (hm : m ≠ 0) (ht : 1 + d * sx * x3 * sy * y3 ≠ 0) : p * m + d * a * b * x3 * y3 ≠ 0 := by
  have h := Fp.mul_ne (Fp.mul_ne hp hm) ht
  have e : p * m + d * a * b * x3 * y3 = p * m * (1 + d * sx * x3 * sy * y3) := by grind
  rw [e]; exact h
theorem den_m {d sx sy a b x3 y3 p m : Fp} (ha : sx * p = a) (hb : sy * m = b) (hp : p ≠ 0) (hm : m ≠ 0) (ht : 1 - d * sx * x3 * sy * y3 ≠ 0) : p * m - d * a * b * x3 * y3 ≠ 0 := by
  have h := Fp.mul_ne (Fp.mul_ne hp hm) ht
  have e : p * m - d * a * b * x3 * y3 = p * m * (1 - d * sx * x3 * sy * y3) := by grind
  rw [e]; exact h
theorem cross {t t' n n' e e' : Fp} (h : t * e = n) (h' : t' * e' = n') (he : e ≠ 0) (he' : e' ≠ 0) (hx : n * e' = n' * e) : t = t' := by
  apply Fp.cancel (Fp.mul_ne he he')
  grind
theorem add_assoc (P Q R : Pt) : add (add P Q) R = add P (add Q R) := by
  rw [add_comm P (add Q R)]
  have a1 := add_x P Q
  have a2 := add_y P Q
  have b1 := add_x Q R
  have b2 := add_y Q R
  have c1 := add_x (add P Q) R
  have c2 := add_y (add P Q) R
  have d1 := add_x (add Q R) P
  have d2 := add_y (add Q R) P
  have p1 := plus_ne P.on Q.on
  have m1 := minus_ne P.on Q.on
  have p2 := plus_ne Q.on R.on
  have m2 := minus_ne Q.on R.on
  have p3 := plus_ne (add P Q).on R.on
  have m3 := minus_ne (add P Q).on R.on
  have p4 := plus_ne (add Q R).on P.on
  have m4 := minus_ne (add Q R).on P.on
  have AX := ax_num P.on Q.on R.on
  have AY := ay_num P.on Q.on R.on
  apply Pt.ext
  · refine cross (sum_x a1 a2 c1) (sum_x b1 b2 d1) (den_p a1 a2 p1 m1 p3) (den_p b1 b2 p2 m2 p4) ?_
    clear a1 a2 b1 b2 c1 c2 d1 d2 p1 m1 p2 m2 p3 m3 p4 m4 AY
    generalize d * P.x * Q.x * P.y * Q.y = D at *
    generalize d * Q.x * R.x * Q.y * R.y = D' at *
    grind
  · refine cross (sum_y a1 a2 c2) (sum_y b1 b2 d2) (den_m a1 a2 p1 m1 m3) (den_m b1 b2 p2 m2 m4) ?_
    clear a1 a2 b1 b2 c1 c2 d1 d2 p1 m1 p2 m2 p3 m3 p4 m4 AX
    generalize d * P.x * Q.x * P.y * Q.y = D at *
    generalize d * Q.x * R.x * Q.y * R.y = D' at *
    grind
end Ed
end Go.Proofs.YtkhdhiddhnmdkaaGreatDoor
