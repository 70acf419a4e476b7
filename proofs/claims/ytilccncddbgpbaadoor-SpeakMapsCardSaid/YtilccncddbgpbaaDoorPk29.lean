/-
Variables of the field's elements that a law makes.
The forced tail of a drawn region, step by step: calls, plain operations, operations that make memory.
-/
import Derived.Test.YtilccncddbgpbaaDoorPk28
import Derived.Test.YtilccncddbgpbaaDoorPk26
import Derived.Test.YtilccncddbgpbaaDoorPk05
namespace Go.Proofs.YtilccncddbgpbaaDoor
open Go.RowKit

def oz : Obj := .cells (uvals zero5).toArray tE
theorem P3.rowa {wr w : World} {a b c : List Nat} (h : P3 wr w a b c) (l : List Nat) : P3 (wr.setRow w.heap.size (uvals l).toArray) w l b c :=
  ⟨h.1.setRow _, h.2.1.farRow (by omega) _, h.2.2.1.farRow (by omega) _, below_row h.2.2.2 _ _ (by omega)⟩
theorem P3.rowc {wr w : World} {a b c : List Nat} (h : P3 wr w a b c) (l : List Nat) : P3 (wr.setRow (w.heap.size + 2) (uvals l).toArray) w a b l :=
  ⟨h.1.farRow (by omega) _, h.2.1.farRow (by omega) _, h.2.2.1.setRow _, below_row h.2.2.2 _ _ (by omega)⟩
def P2 (wr w : World) (a b : List Nat) : Prop := Blk wr w.heap.size tE (uvals a) ∧ Blk wr (w.heap.size + 1) tE (uvals b) ∧ Below w.heap.size w wr
theorem P2.start (w : World) (a b : List Nat) : P2 ((w.alloc (.cells (uvals a).toArray tE)).alloc (.cells (uvals b).toArray tE)) w a b := ⟨(Blk.new w _ (uvals a)).alloc _, Blk.new2 _ _ _ (uvals b), below2 _ _ _⟩
theorem P2.below {wr wr' w : World} {a b : List Nat} (h : P2 wr w a b) (hb : Below wr.heap.size wr wr') : P2 wr' w a b := ⟨h.1.below hb h.1.lt, h.2.1.below hb h.2.1.lt, h.2.2.trans (hb.mono h.2.2.size)⟩
theorem P2.rowa {wr w : World} {a b : List Nat} (h : P2 wr w a b) (l : List Nat) : P2 (wr.setRow w.heap.size (uvals l).toArray) w l b := ⟨h.1.setRow _, h.2.1.farRow (by omega) _, below_row h.2.2 _ _ (by omega)⟩
theorem P2.rowb {wr w : World} {a b : List Nat} (h : P2 wr w a b) (l : List Nat) : P2 (wr.setRow (w.heap.size + 1) (uvals l).toArray) w a l := ⟨h.1.farRow (by omega) _, h.2.1.setRow _, below_row h.2.2 _ _ (by omega)⟩
def P1 (wr w : World) (a : List Nat) : Prop := Blk wr w.heap.size tE (uvals a) ∧ Below w.heap.size w wr
theorem P1.start (w : World) (a : List Nat) : P1 (w.alloc (.cells (uvals a).toArray tE)) w a := ⟨Blk.new w _ (uvals a), below1 _ _⟩
theorem P1.below {wr wr' w : World} {a : List Nat} (h : P1 wr w a) (hb : Below wr.heap.size wr wr') : P1 wr' w a := ⟨h.1.below hb h.1.lt, h.2.trans (hb.mono h.2.size)⟩
theorem P1.row {wr w : World} {a : List Nat} (h : P1 wr w a) (l : List Nat) : P1 (wr.setRow w.heap.size (uvals l).toArray) w l := ⟨h.1.setRow _, below_row h.2 _ _ (by omega)⟩
theorem El.of {l : List Nat} {x : Fp} (h : Lm l x.val) : El (.agg (uvals l).toArray) x := ⟨l, rfl, h⟩
theorem alloc_el {ops : Array Oper} {rest : List Oper} {o : Oper} {a : Act} {w : World} {Q : Exit → Act → World → Prop} {d b : Nat} (ha : o.op = .alloc tE) (hg : o.guard = none) (hd : o.dst = some d) (hb : b = w.heap.size)
    (h : wpList Tryd.prog ops Q rest (a.put (some d) (.pointer (some ⟨b, 0, none⟩))) (w.alloc (.cells (uvals zero5).toArray tE))) : wpList Tryd.prog ops Q (o :: rest) a w := by
  refine wpList_plain hg fun K1 hK1 => ?_
  unfold Oper.wp execOp
  simp only [ha, Sem.run_bind, run_alloc_el w, Result.andThen_ok, Sem.run_pure, Oper.upon]
  refine hK1 _ _ ?_
  rw [hd, ← hb]
  exact h
theorem new1 {ops : Array Oper} {rest : List Oper} {o1 s1 : Oper} {a : Act} {w : World} {Q : Exit → Act → World → Prop} {d1 : Nat} {y1 : Operand} {la : List Nat}
    (h1 : o1.op = .alloc tE) (g1 : o1.guard = none) (e1 : o1.dst = some d1) (hs1 : s1.op = .store tE (.tmp d1) y1) (gs1 : s1.guard = none) (l1 : la.length = 5)
    (hy1 : (a.put (some d1) (.pointer (some ⟨w.heap.size, 0, none⟩))).eval y1 = .agg (uvals la).toArray)
    (hx1 : (a.put (some d1) (.pointer (some ⟨w.heap.size, 0, none⟩))).eval (.tmp d1) = .pointer (some ⟨w.heap.size, 0, none⟩))
    (h : ∀ w', P1 w' w la → wpList Tryd.prog ops Q rest ((a.put (some d1) (.pointer (some ⟨w.heap.size, 0, none⟩))).put s1.dst undef) w') : wpList Tryd.prog ops Q (o1 :: s1 :: rest) a w := by
  have Q1 := P1.start w zero5
  refine alloc_el h1 g1 e1 rfl ?_
  refine store_el Q1.1 hz5 (Lib.hid l1) gs1 hs1 hx1 hy1 ?_
  exact h _ (Q1.row la)
theorem new2 {ops : Array Oper} {rest : List Oper} {o1 o2 s1 s2 : Oper} {a a2 a3 : Act} {w : World} {Q : Exit → Act → World → Prop} {d1 d2 : Nat} {y1 y2 : Operand} {la lb : List Nat}
    (h1 : o1.op = .alloc tE) (g1 : o1.guard = none) (e1 : o1.dst = some d1) (h2 : o2.op = .alloc tE) (g2 : o2.guard = none) (e2 : o2.dst = some d2)
    (hs1 : s1.op = .store tE (.tmp d1) y1) (gs1 : s1.guard = none) (l1 : la.length = 5) (hs2 : s2.op = .store tE (.tmp d2) y2) (gs2 : s2.guard = none) (l2 : lb.length = 5)
    (ea : (a.put (some d1) (.pointer (some ⟨w.heap.size, 0, none⟩))).put (some d2) (.pointer (some ⟨w.heap.size + 1, 0, none⟩)) = a2) (hx1 : a2.eval (.tmp d1) = .pointer (some ⟨w.heap.size, 0, none⟩)) (hy1 : a2.eval y1 = .agg (uvals la).toArray)
    (eb : a2.put s1.dst undef = a3) (hx2 : a3.eval (.tmp d2) = .pointer (some ⟨w.heap.size + 1, 0, none⟩)) (hy2 : a3.eval y2 = .agg (uvals lb).toArray)
    (h : ∀ w', P2 w' w la lb → wpList Tryd.prog ops Q rest (a3.put s2.dst undef) w') : wpList Tryd.prog ops Q (o1 :: o2 :: s1 :: s2 :: rest) a w := by
  have Q1 := P2.start w zero5 zero5
  have Q2 := Q1.rowa la
  refine alloc_el h1 g1 e1 rfl ?_
  refine alloc_el h2 g2 e2 (b := w.heap.size + 1) (by simp) ?_
  rw [ea]
  refine store_el Q1.1 hz5 (Lib.hid l1) gs1 hs1 hx1 hy1 ?_
  rw [eb]
  refine store_el Q2.2.1 hz5 (Lib.hid l2) gs2 hs2 hx2 hy2 ?_
  exact h _ (Q2.rowb lb)
theorem new3 {ops : Array Oper} {rest : List Oper} {o1 o2 o3 s1 s2 s3 : Oper} {a a2 a3 a4 : Act} {w : World} {Q : Exit → Act → World → Prop} {d1 d2 d3 : Nat} {y1 y2 y3 : Operand} {la lb lc : List Nat}
    (h1 : o1.op = .alloc tE) (g1 : o1.guard = none) (e1 : o1.dst = some d1) (h2 : o2.op = .alloc tE) (g2 : o2.guard = none) (e2 : o2.dst = some d2) (h3 : o3.op = .alloc tE) (g3 : o3.guard = none) (e3 : o3.dst = some d3)
    (hs1 : s1.op = .store tE (.tmp d1) y1) (gs1 : s1.guard = none) (l1 : la.length = 5) (hs2 : s2.op = .store tE (.tmp d2) y2) (gs2 : s2.guard = none) (l2 : lb.length = 5) (hs3 : s3.op = .store tE (.tmp d3) y3) (gs3 : s3.guard = none) (l3 : lc.length = 5)
    (ea : ((a.put (some d1) (.pointer (some ⟨w.heap.size, 0, none⟩))).put (some d2) (.pointer (some ⟨w.heap.size + 1, 0, none⟩))).put (some d3) (.pointer (some ⟨w.heap.size + 2, 0, none⟩)) = a2)
    (hx1 : a2.eval (.tmp d1) = .pointer (some ⟨w.heap.size, 0, none⟩)) (hy1 : a2.eval y1 = .agg (uvals la).toArray)
    (eb : a2.put s1.dst undef = a3) (hx2 : a3.eval (.tmp d2) = .pointer (some ⟨w.heap.size + 1, 0, none⟩)) (hy2 : a3.eval y2 = .agg (uvals lb).toArray)
    (ec : a3.put s2.dst undef = a4) (hx3 : a4.eval (.tmp d3) = .pointer (some ⟨w.heap.size + 2, 0, none⟩)) (hy3 : a4.eval y3 = .agg (uvals lc).toArray)
    (h : ∀ w', P3 w' w la lb lc → wpList Tryd.prog ops Q rest (a4.put s3.dst undef) w') : wpList Tryd.prog ops Q (o1 :: o2 :: o3 :: s1 :: s2 :: s3 :: rest) a w := by
  have Q1 := P3.start w zero5 zero5
  have Q2 := Q1.rowa la
  have Q3 := Q2.rowb lb
  refine alloc_el h1 g1 e1 rfl ?_
  refine alloc_el h2 g2 e2 (b := w.heap.size + 1) (by simp) ?_
  refine alloc_el h3 g3 e3 (b := w.heap.size + 2) (by simp) ?_
  rw [ea]
  refine store_el Q1.1 hz5 (Lib.hid l1) gs1 hs1 hx1 hy1 ?_
  rw [eb]
  refine store_el Q2.2.1 hz5 (Lib.hid l2) gs2 hs2 hx2 hy2 ?_
  rw [ec]
  refine store_el Q3.2.2.1 hz5 (Lib.hid l3) gs3 hs3 hx3 hy3 ?_
  exact h _ (Q3.rowc lc)
theorem cmp_off {x y : Nat} (h : x ≠ y) : cmpOf x y = -1 ∨ cmpOf x y = 1 := by
  unfold cmpOf
  split
  · exact .inl rfl
  · exact .inr (if_pos (by omega))
/-! answers named ahead, for quiet walks -/
abbrev QC (f : FuncId) (args : Array Value) (v : Value) : Prop := ∀ w : World, Calls Tryd.prog f args w fun e w' => e = .returned v ∧ Below w.heap.size w w'
theorem qAdd {a b : List Nat} {x y : Fp} (ha : Lm a x.val) (hb : Lm b y.val) : ∃ l, Lm l (x + y).val ∧ QC 9 #[.agg (uvals a).toArray, .agg (uvals b).toArray] (.agg (uvals l).toArray) :=
  ⟨_, (ha.add hb).cast (val_add x y), fun w => el_add_ok a b w ha.len hb.len ha.small hb.small⟩
theorem qSub {a b : List Nat} {x y : Fp} (ha : Lm a x.val) (hb : Lm b y.val) : ∃ l, Lm l (x - y).val ∧ QC 11 #[.agg (uvals a).toArray, .agg (uvals b).toArray] (.agg (uvals l).toArray) :=
  ⟨_, (ha.sub hb).cast (val_sub x y), fun w => el_sub_ok a b w ha.len hb.len ha.small hb.small⟩
theorem qMul {a b : List Nat} {x y : Fp} (ha : Lm a x.val) (hb : Lm b y.val) : ∃ l, Lm l (x * y).val ∧ QC 10 #[.agg (uvals a).toArray, .agg (uvals b).toArray] (.agg (uvals l).toArray) :=
  ⟨_, (ha.mul hb).cast (val_mul x y), fun w => el_mul_ok a b w ha.own hb.own⟩
theorem qNeg {a : List Nat} {x : Fp} (ha : Lm a x.val) : ∃ l, Lm l (-x).val ∧ QC 38 #[.agg (uvals a).toArray] (.agg (uvals l).toArray) :=
  ⟨_, ha.neg.cast (val_neg x), fun w => el_neg_ok a w ha.len ha.small⟩
theorem qSquare {a : List Nat} {x : Fp} (ha : Lm a x.val) : ∃ l, Lm l (x * x).val ∧ QC 45 #[.agg (uvals a).toArray] (.agg (uvals l).toArray) :=
  ⟨_, (ha.mul ha).cast (val_mul x x), fun w => el_square_ok a w ha.own⟩
theorem qInvert {a : List Nat} {x : Fp} (ha : Lm a x.val) : ∃ l, Lm l (Fp.inv x).val ∧ QC 12 #[.agg (uvals a).toArray] (.agg (uvals l).toArray) :=
  ⟨_, ha.inv, fun w => el_invert_ok a w ha.own⟩
theorem qChoose (c : Bool) {a b : List Nat} {x y : Fp} (ha : Lm a x.val) (hb : Lm b y.val) : ∃ l, Lm l (if c then x else y).val ∧ QC 55 #[.bool c, .agg (uvals a).toArray, .agg (uvals b).toArray] (.agg (uvals l).toArray) :=
  ⟨_, by cases c; exact hb; exact ha, fun w => el_choose_ok c a b w ha.len hb.len⟩
theorem qSmall (n : Nat) (h : n < 18446744073709551616) : ∃ l, Lm l (Fp.ofN n).val ∧ QC 8 #[.int .u64 n] (.agg (uvals l).toArray) :=
  ⟨_, Lm.smallN n (by simpa using h), fun w => el_small_ok n w h⟩
theorem qSmall1 : ∃ l, Lm l (1 : Fp).val ∧ QC 8 #[.int .u64 1] (.agg (uvals l).toArray) := qSmall 1 (by decide)
theorem qSame {a b : List Nat} {x y : Fp} {c : Bool} (ha : Lm a x.val) (hb : Lm b y.val) (h : decide (x = y) = c) : QC 63 #[.agg (uvals a).toArray, .agg (uvals b).toArray] (.bool c) :=
  fun w => tells (elSame ⟨a, rfl, ha⟩ ⟨b, rfl, hb⟩ w) h
theorem qZero {a : List Nat} {x : Fp} {c : Bool} (ha : Lm a x.val) (h : decide (x = 0) = c) : QC 15 #[.agg (uvals a).toArray] (.bool c) := fun w => tells (elZero ⟨a, rfl, ha⟩ w) h
theorem qOdd {a : List Nat} {x : Fp} {c : Bool} (ha : Lm a x.val) (h : decide (x.val % 2 = 1) = c) : QC 44 #[.agg (uvals a).toArray] (.bool c) := fun w => tells (elOdd ⟨a, rfl, ha⟩ w) h
theorem quiet_skip {ops : Array Oper} {C : World → Prop} {a : Act} {o : Oper} {K : Act → Prop} (hg : Region.wanted o (yielded ops a.tmps) = false) (h : K (a.put o.dst undef)) :
    if Region.wanted o (yielded ops a.tmps) then o.quiet Tryd.prog a C K else K (a.put o.dst undef) := by
  rw [if_neg (by rw [hg]; decide)]
  exact h
theorem elSmallC1 (w : World) : Calls Tryd.prog 8 #[.int .u64 1] w (Gives w 1) := elSmall 1 w (by decide)
end Go.Proofs.YtilccncddbgpbaaDoor

namespace Go.Proofs.YtilccncddbgpbaaDoor
open Go.RowKit

variable {P : Program} {ops : Array Oper} {w0 : World}
theorem driftT_nil {K : Act → World → Prop} {a : Act} {w : World} (h : ∀ w1, Rw w w1 → K a w1) : wpListD P ops w0 K [] a w := h
theorem driftT_call {K : Act → World → Prop} {o : Oper} {rest : List Oper} {a : Act} {w : World} {G : Value → World → Prop} (f : FuncId) (args : Array Value) (hw0 : Rw w0 w) (hg : Region.wanted o (yielded ops a.tmps) = true)
    (hv : ∀ w, (execOp a.eval o).run P w = .ok (.enter f args) w) (hc : ∀ w1, Rw w w1 → Calls P f args w1 fun e w' => ∃ v, e = .returned v ∧ G v w' ∧ Below w1.heap.size w1 w')
    (h : ∀ v w', Rw w w' → G v w' → wpListD P ops w0 K rest (a.put o.dst v) w') : wpListD P ops w0 K (o :: rest) a w := by
  intro w1 h1
  simp only [wpList]
  rw [if_pos hg]
  refine .inl ?_
  unfold Oper.wp
  rw [hv w1]
  simp only [Oper.upon]
  refine (hc w1 h1).mono ?_
  rintro e w' ⟨v, rfl, hG, hb⟩
  exact ⟨trivial, Rw.trans hw0 (Rw.trans h1 hb), h v w' (Rw.trans h1 hb) hG⟩
theorem driftT_make {K : Act → World → Prop} {o : Oper} {rest : List Oper} {a : Act} {w : World} {G : Value → World → Prop} (hw0 : Rw w0 w) (hg : Region.wanted o (yielded ops a.tmps) = true)
    (hv : ∀ w1, Rw w w1 → ∃ v w2, (execOp a.eval o).run P w1 = .ok (.value v) w2 ∧ Below w1.heap.size w1 w2 ∧ G v w2)
    (h : ∀ v w', Rw w w' → G v w' → wpListD P ops w0 K rest (a.put o.dst v) w') : wpListD P ops w0 K (o :: rest) a w := by
  intro w1 h1
  simp only [wpList]
  rw [if_pos hg]
  refine .inl ?_
  obtain ⟨v, w2, hr, hb, hG⟩ := hv w1 h1
  unfold Oper.wp
  rw [hr]
  simp only [Oper.upon]
  exact ⟨trivial, Rw.trans hw0 (Rw.trans h1 hb), h v w2 (Rw.trans h1 hb) hG⟩
theorem driftT_plain {K : Act → World → Prop} {o : Oper} {rest : List Oper} {a : Act} {w : World} (v : Value) (hw0 : Rw w0 w) (hg : Region.wanted o (yielded ops a.tmps) = true)
    (hv : ∀ w1, Rw w w1 → (execOp a.eval o).run P w1 = .ok (.value v) w1) (h : ∀ w', Rw w w' → wpListD P ops w0 K rest (a.put o.dst v) w') : wpListD P ops w0 K (o :: rest) a w :=
  driftT_make (G := fun u _ => u = v) hw0 hg (fun w1 h1 => ⟨v, w1, hv w1 h1, Below.refl _ _, rfl⟩) (fun _ w' hw hu => hu ▸ h w' hw)
end Go.Proofs.YtilccncddbgpbaaDoor
