/-
Arrays of 32 bytes that a law makes; curve.Base.
The curve's laws without the program: both ends have the same, and not 0.
The curve's laws: the fixed facts.
A region that draws its order: a head that floats, behind it m new variables of one type that are made in whatever order, and their values, stored in turn.
-/
import Derived.Test.YtkhdhiddhnmdkaaGreatDoorPk21
import Derived.Test.YtkhdhiddhnmdkaaGreatDoorPk19
namespace Go.Proofs.YtkhdhiddhnmdkaaGreatDoor
open Go.RowKit

def zb : List Value := List.replicate 32 (.int .u8 0)
theorem bone (l : List UInt8) : ∀ v ∈ bvals l, v.oneCell' = true := by
  intro v hv
  obtain ⟨d, _, rfl⟩ := List.mem_map.1 hv
  rfl
theorem blen {l : List UInt8} (h : l.length = 32) : (bvals l).length = 32 := by rw [bvals_len, h]
theorem run_alloc_ar (w : World) : (Instr.alloc tB true (.tuple #[])).run Tryz.prog w = .ok (.pointer (some ⟨w.heap.size, 0, none⟩)) (w.alloc (.cells zb.toArray tB)) := by kernel_rfl
theorem load_ar {ops : Array Oper} {rest : List Oper} {o : Oper} {a : Act} {w : World} {Q : Exit → Act → World → Prop} {b : Nat} {x : Operand} {l : List UInt8} (hb : Blk w b tB (bvals l)) (hl : l.length = 32)
    (hg : Region.wanted o (yielded ops a.tmps) = true) (ho : o.op = .load tB x) (hx : a.eval x = .pointer (some ⟨b, 0, none⟩)) (h : wpList Tryz.prog ops Q rest (a.put o.dst (.agg (bvals l).toArray)) w) : wpList Tryz.prog ops Q (o :: rest) a w := by
  unfold wpList
  rw [if_pos hg]
  exact .inl (wp_load_row tB x ho b hx tB _ (0, 0) _ hb Tryz.underlying48 rfl (by rw [arr32_size]; simp [bvals_len, hl]) h)
theorem alloc_ar {ops : Array Oper} {rest : List Oper} {o : Oper} {a : Act} {w : World} {Q : Exit → Act → World → Prop} {d b : Nat} (ha : o.op = .alloc tB) (hg : o.guard = none) (hd : o.dst = some d) (hb : b = w.heap.size)
    (h : wpList Tryz.prog ops Q rest (a.put (some d) (.pointer (some ⟨b, 0, none⟩))) (w.alloc (.cells zb.toArray tB))) : wpList Tryz.prog ops Q (o :: rest) a w := by
  refine wpList_plain hg fun K1 hK1 => ?_
  unfold Oper.wp execOp
  simp only [ha, Sem.run_bind, run_alloc_ar w, Result.andThen_ok, Sem.run_pure, Oper.upon]
  refine hK1 _ _ ?_
  rw [hd, ← hb]
  exact h
theorem store_ar {ops : Array Oper} {rest : List Oper} {o : Oper} {a : Act} {w : World} {Q : Exit → Act → World → Prop} {b : Nat} {x y : Operand} {old : List Value} {l : List UInt8} (hb : Blk w b tB old) (hold : old.length = 32) (hl : l.length = 32)
    (hgd : o.guard = none) (ho : o.op = .store tB x y) (hx : a.eval x = .pointer (some ⟨b, 0, none⟩)) (hy : a.eval y = .agg (bvals l).toArray)
    (h : wpList Tryz.prog ops Q rest (a.put o.dst undef) (w.setRow b (bvals l).toArray)) : wpList Tryz.prog ops Q (o :: rest) a w :=
  store_blk (n := 32) hb arr32_size (blen hl) hold (bone l) hgd ho hx hy h
theorem new1B {ops : Array Oper} {rest : List Oper} {o1 s1 : Oper} {a : Act} {w : World} {Q : Exit → Act → World → Prop} {d1 : Nat} {y1 : Operand} {la : List UInt8}
    (h1 : o1.op = .alloc tB) (g1 : o1.guard = none) (e1 : o1.dst = some d1) (hs1 : s1.op = .store tB (.tmp d1) y1) (gs1 : s1.guard = none) (l1 : la.length = 32)
    (hy1 : (a.put (some d1) (.pointer (some ⟨w.heap.size, 0, none⟩))).eval y1 = .agg (bvals la).toArray)
    (hx1 : (a.put (some d1) (.pointer (some ⟨w.heap.size, 0, none⟩))).eval (.tmp d1) = .pointer (some ⟨w.heap.size, 0, none⟩))
    (h : ∀ w', Blk w' w.heap.size tB (bvals la) → Below w.heap.size w w' → wpList Tryz.prog ops Q rest ((a.put (some d1) (.pointer (some ⟨w.heap.size, 0, none⟩))).put s1.dst undef) w') : wpList Tryz.prog ops Q (o1 :: s1 :: rest) a w := by
  have Q1 : Blk (w.alloc (.cells zb.toArray tB)) w.heap.size tB zb := Blk.new w tB zb
  refine alloc_ar h1 g1 e1 rfl ?_
  refine store_ar Q1 rfl l1 gs1 hs1 hx1 hy1 ?_
  exact h _ (Q1.setRow _) (below_row (below1 _ _) _ _ (Nat.le_refl _))
section
variable {ops : Array Oper} {w0 : World} {K : Act → World → Prop}
theorem driftT_allocB {o : Oper} {rest : List Oper} {a : Act} {w : World} {d : Tmp}
    (hw0 : Rw w0 w) (hg : o.guard = none) (ha : o.op = .alloc tB) (hd : o.dst = some d) (h : ∀ c w', Rw w w' → w.heap.size ≤ c → Blk w' c tB zb → wpListD Tryz.prog ops w0 K rest (a.put (some d) (.pointer (some ⟨c, 0, none⟩))) w') :
    wpListD Tryz.prog ops w0 K (o :: rest) a w := by
  refine driftT_make (G := fun v w' => ∃ c, v = .pointer (some ⟨c, 0, none⟩) ∧ w.heap.size ≤ c ∧ Blk w' c tB zb) hw0 (by simp [Region.wanted, hg]) (fun w1 h1 => ?_) ?_
  · refine ⟨_, _, ?_, (Below.refl _ _).alloc (Nat.le_refl _) _, ⟨w1.heap.size, rfl, h1.size, Blk.new w1 tB zb⟩⟩
    unfold execOp
    simp only [ha, Sem.run_bind, run_alloc_ar w1, Result.andThen_ok, Sem.run_pure]
  · rintro v w' hw ⟨c, rfl, hc, hb⟩
    rw [hd]
    exact h c w' hw hc hb
theorem driftT_storeB {old : List Value} {l : List UInt8} {o : Oper} {rest : List Oper} {a : Act} {w : World} {b : Nat} {x y : Operand} (hw0 : Rw w0 w) (hb : Blk w b tB old) (hold : old.length = 32) (hl : l.length = 32)
    (hnew : w0.heap.size ≤ b) (hg : o.guard = none) (hds : o.dst = none) (ho : o.op = .store tB x y) (hx : a.eval x = .pointer (some ⟨b, 0, none⟩)) (hy : a.eval y = .agg (bvals l).toArray)
    (h : ∀ w', Rw w0 w' → Blk w' b tB (bvals l) → wpListD Tryz.prog ops w0 K rest a w') : wpListD Tryz.prog ops w0 K (o :: rest) a w := by
  refine driftT_step (fun w1 h1 Q' hQ' => ?_)
  have hb1 := hb.below h1 hb.lt
  have hW1 := Rw.trans hw0 h1
  refine store_blk (n := 32) (t := tB) (b := b) (old := old) (cs := bvals l) hb1 arr32_size (blen hl) hold (bone l) hg ho hx hy ?_
  have hW2 : Rw w0 (w1.setRow b (bvals l).toArray) := below_row hW1 _ _ hnew
  refine hQ' _ _ hW2 ?_
  rw [hds]
  exact h _ hW2 (hb1.setRow _)
end
/-- the secret's bytes -/
def multB (l p : List UInt8) : List UInt8 := leBytes (Ed.multF (KN l) (fpOf ⟨p.toArray⟩)).val 32
def okB (l p : List UInt8) : Bool := !decide (Ed.multF (KN l) (fpOf ⟨p.toArray⟩) = 0)
def nineB : List UInt8 := 9 :: List.replicate 31 0
theorem multB_len (l p : List UInt8) : (multB l p).length = 32 := by simp [multB, leBytes]
theorem multC (l p : List UInt8) (hl : l.length = 32) (hp : p.length = 32) (w : World) : Calls Tryz.prog 22 #[.agg (bvals l).toArray, .agg (bvals p).toArray] w fun e w' => e = .returned (.tuple #[.agg (bvals (multB l p)).toArray, .bool (okB l p)]) ∧ Below w.heap.size w w' := mult_ok l p hl hp w
theorem bldNine (w : World) : (Instr.build tB #[(0, .int .u8 9)]).run Tryz.prog w = .ok (.agg (bvals nineB).toArray) w := run_build w tB #[(0, .int .u8 9)] _ (by kernel_rfl)
theorem bld_step {ops : Array Oper} {rest : List Oper} {o : Oper} {a : Act} {w : World} {Q : Exit → Act → World → Prop} {k n : Nat} {l : List UInt8} (hb : (Instr.build tB #[(k, .int .u8 (n : Nat))]).run Tryz.prog w = .ok (.agg (bvals l).toArray) w)
    (hg : o.guard = none) (ho : o.op = .build tB #[(k, .const (.int .u8 (n : Nat)))]) (h : wpList Tryz.prog ops Q rest (a.put o.dst (.agg (bvals l).toArray)) w) : wpList Tryz.prog ops Q (o :: rest) a w :=
  wpList_plain hg fun K hK => by
    unfold Oper.wp execOp
    have e : a.eval (.const (.int .u8 (n : Nat))) = .int .u8 (n : Nat) := rfl
    simp only [ho]
    simp [e, hb, Oper.upon]
    exact hK _ _ h
set_option maxHeartbeats 2000000 in
set_option maxRecDepth 100000 in
theorem base_ok (l : List UInt8) (hl : l.length = 32) (w : World) : Calls Tryz.prog 19 #[.agg (bvals l).toArray] w fun e w' => e = .returned (.agg (bvals (multB l nineB)).toArray) ∧ Below w.heap.size w w' := by
  have ML := multB_len l nineB
  have MC := fun w' => multC l nineB hl rfl w'
  have N9 := bldNine
  generalize multB l nineB = X at *
  generalize okB l nineB = ok at *
  generalize nineB = n9 at *
  go_enter Tryz.func19, Tryz.ntmps19
  go_upto_region 1 with fail
  refine wp_gen (fun wx => Blk wx w.heap.size tB (bvals l) ∧ Blk wx (w.heap.size + 1) tB zb ∧ Below w.heap.size w wx) ⟨(Blk.new w _ (bvals l)).alloc _, Blk.new2 _ _ _ zb, below2 _ _ _⟩ ?_
  rintro w1 ⟨O1, O2, BW⟩
  go_wp2_with (first | refine load_ar O1 hl rfl rfl rfl ?_ | refine bld_step (k := 0) (n := 9) (l := n9) (N9 w1) rfl rfl ?_)
  refine (MC w1).mono ?_
  rintro e w2 ⟨rfl, hb⟩
  replace O2 := O2.below hb O2.lt
  replace BW := BW.trans (hb.mono BW.size)
  clear hb O1
  go_upto_region 2 with (refine new1B rfl rfl rfl rfl rfl ML (by go_simp) (by go_simp) (fun w3 R hb => ?_))
  replace O2 := O2.below hb O2.lt
  replace BW := BW.trans (hb.mono BW.size)
  go_simp
  go_wp2_with (first | refine load_ar R ML rfl rfl rfl ?_ | refine store_ar O2 rfl ML rfl rfl rfl rfl ?_)
  exact ret_blk rfl (O2.setRow _) Tryz.underlying48 rfl arr32_size (blen ML) rfl rfl ⟨rfl, below_row BW _ _ (by omega)⟩
end Go.Proofs.YtkhdhiddhnmdkaaGreatDoor

namespace Go.Proofs.YtkhdhiddhnmdkaaGreatDoor
open Go.RowKit

theorem fpOf_le (X : Fp) : fpOf ⟨(leBytes X.val 32).toArray⟩ = X := by
  have h1 : X.val < 2 ^ 255 := Nat.lt_trans X.isLt (by decide)
  have h2 : (leBytes X.val 32).take 32 = leBytes X.val 32 := List.take_of_length_le (by simp [leBytes])
  have h3 : (2 : Nat) ^ 255 < 256 ^ 32 := by decide
  unfold fpOf ofB
  show Fp.ofN (le8 ((leBytes X.val 32).take 32) % 2 ^ 255) = X
  rw [h2, le8_leBytes, Nat.mod_eq_of_lt (Nat.lt_trans h1 h3), Nat.mod_eq_of_lt h1, Fp.ofN_val]
theorem fpOf_multB (l p : List UInt8) : fpOf ⟨(multB l p).toArray⟩ = Ed.multF (KN l) (fpOf ⟨p.toArray⟩) := fpOf_le _
theorem fpOf_nine : fpOf ⟨nineB.toArray⟩ = 9 := by decide +kernel
theorem cross_dvd {a b : List UInt8} (ha : a.length = 32) (hb : b.length = 32) : ¬ Ed.ell ∣ KN a * KN b := fun h =>
  (Ed.ell_prm.dvd_mul h).elim (Ed.not_dvd_clamp (KN_ok ha).1 (KN_ok ha).2.1 (KN_ok ha).2.2) (Ed.not_dvd_clamp (KN_ok hb).1 (KN_ok hb).2.1 (KN_ok hb).2.2)
theorem single_dvd {a : List UInt8} (ha : a.length = 32) : ¬ Ed.ell ∣ KN a := Ed.not_dvd_clamp (KN_ok ha).1 (KN_ok ha).2.1 (KN_ok ha).2.2
theorem secret {a b : List UInt8} (ha : a.length = 32) (hb : b.length = 32) : Ed.multF (KN a) (fpOf ⟨(multB b nineB).toArray⟩) = Ed.uOf (Ed.smul (KN a * KN b) Ed.B) := by
  rw [fpOf_multB, fpOf_nine, Ed.mult_base (KN_ok hb).2.2, Ed.mult_next (single_dvd hb) (KN_ok ha).2.2]
theorem two_eq {a b : List UInt8} (ha : a.length = 32) (hb : b.length = 32) : multB a (multB b nineB) = multB b (multB a nineB) := by
  unfold multB
  rw [show (leBytes (Ed.multF (KN b) (fpOf ⟨nineB.toArray⟩)).val 32) = multB b nineB from rfl, show (leBytes (Ed.multF (KN a) (fpOf ⟨nineB.toArray⟩)).val 32) = multB a nineB from rfl, secret ha hb, secret hb ha, Nat.mul_comm]
theorem secret_ne {a b : List UInt8} (ha : a.length = 32) (hb : b.length = 32) : Ed.multF (KN a) (fpOf ⟨(multB b nineB).toArray⟩) ≠ 0 := by
  rw [secret ha hb]
  have f := Ed.fine (cross_dvd ha hb)
  exact Ed.uOf_ne f.1 f.2
theorem two_ok {a b : List UInt8} (ha : a.length = 32) (hb : b.length = 32) : okB a (multB b nineB) = true := by
  unfold okB
  rw [decide_eq_false (secret_ne ha hb)]
  rfl
theorem three {a b c : List UInt8} (ha : a.length = 32) (hb : b.length = 32) (hc : c.length = 32) : Ed.multF (KN c) (fpOf ⟨(multB b (multB a nineB)).toArray⟩) = Ed.uOf (Ed.smul (KN c * (KN b * KN a)) Ed.B) := by
  rw [fpOf_multB, secret hb ha, Ed.mult_next (cross_dvd hb ha) (KN_ok hc).2.2]
theorem three_eq {a b c : List UInt8} (ha : a.length = 32) (hb : b.length = 32) (hc : c.length = 32) : multB c (multB b (multB a nineB)) = multB b (multB a (multB c nineB)) := by
  have h1 := three ha hb hc
  have h2 := three hc ha hb
  have e : KN c * (KN b * KN a) = KN b * (KN a * KN c) := by rw [Nat.mul_comm (KN b) (KN a), ← Nat.mul_assoc, Nat.mul_comm (KN c), Nat.mul_comm]
  rw [e, ← h2] at h1
  show leBytes (Ed.multF (KN c) (fpOf ⟨(multB b (multB a nineB)).toArray⟩)).val 32 = leBytes (Ed.multF (KN b) (fpOf ⟨(multB a (multB c nineB)).toArray⟩)).val 32
  rw [h1]
/-! the fixed facts -/
def LA : List UInt8 := List.replicate 8 0 ++ 7 :: List.replicate 23 0
def LB : List UInt8 := List.replicate 20 0 ++ 9 :: List.replicate 11 0
theorem quot_ne {x z i x' z' i' : Fp} (h1 : z * i = 1) (h2 : z' * i' = 1) (h : x * i = x' * i') : x * z' = x' * z := by grind
theorem lt_all (X : Fp) : X.val < 256 ^ 32 := Nat.lt_trans X.isLt (by decide)
theorem base_ne : multB LA nineB ≠ multB LB nineB := by
  intro e
  have h : Ed.multF (KN LA) 9 = Ed.multF (KN LB) 9 := by
    have := leBytes_inj (lt_all _) (lt_all _) e
    rw [fpOf_nine] at this
    exact Fin.ext this
  have z1 : (Ed.lad 9 (KN LA) 255).Z1 ≠ 0 := by decide +kernel
  have z2 : (Ed.lad 9 (KN LB) 255).Z1 ≠ 0 := by decide +kernel
  have hne : ¬ (Ed.lad 9 (KN LA) 255).X1 * (Ed.lad 9 (KN LB) 255).Z1 = (Ed.lad 9 (KN LB) 255).X1 * (Ed.lad 9 (KN LA) 255).Z1 := by decide +kernel
  exact hne (quot_ne (Fp.mul_inv z1) (Fp.mul_inv z2) h)
theorem nonzero {a b : List UInt8} (ha : a.length = 32) (hb : b.length = 32) : multB a (multB b nineB) ≠ List.replicate 32 0 := by
  intro e
  have e0 : List.replicate 32 (0 : UInt8) = leBytes (0 : Fp).val 32 := by decide +kernel
  rw [e0] at e
  exact secret_ne ha hb (Fin.ext (leBytes_inj (lt_all _) (lt_all _) e))
end Go.Proofs.YtkhdhiddhnmdkaaGreatDoor

namespace Go.Proofs.YtkhdhiddhnmdkaaGreatDoor
open Go.RowKit

theorem LA_len : LA.length = 32 := rfl
theorem LB_len : LB.length = 32 := rfl
theorem bldA (w : World) : (Instr.build tB #[(8, .int .u8 7)]).run Tryz.prog w = .ok (.agg (bvals LA).toArray) w := run_build w tB #[(8, .int .u8 7)] _ (by kernel_rfl)
theorem bldB (w : World) : (Instr.build tB #[(20, .int .u8 9)]).run Tryz.prog w = .ok (.agg (bvals LB).toArray) w := run_build w tB #[(20, .int .u8 9)] _ (by kernel_rfl)
def ZL : List UInt8 := List.replicate 32 0
theorem ZL_len : ZL.length = 32 := rfl
theorem bldZ (w : World) : (Instr.build tB #[]).run Tryz.prog w = .ok (.agg (bvals ZL).toArray) w := run_build w tB #[] _ (by kernel_rfl)
theorem new2B {ops : Array Oper} {rest : List Oper} {o1 o2 s1 s2 : Oper} {a a2 a3 : Act} {w : World} {Q : Exit → Act → World → Prop} {d1 d2 : Nat} {y1 y2 : Operand} {la lb : List UInt8}
    (h1 : o1.op = .alloc tB) (g1 : o1.guard = none) (e1 : o1.dst = some d1) (h2 : o2.op = .alloc tB) (g2 : o2.guard = none) (e2 : o2.dst = some d2)
    (hs1 : s1.op = .store tB (.tmp d1) y1) (gs1 : s1.guard = none) (l1 : la.length = 32) (hs2 : s2.op = .store tB (.tmp d2) y2) (gs2 : s2.guard = none) (l2 : lb.length = 32)
    (ea : (a.put (some d1) (.pointer (some ⟨w.heap.size, 0, none⟩))).put (some d2) (.pointer (some ⟨w.heap.size + 1, 0, none⟩)) = a2) (hx1 : a2.eval (.tmp d1) = .pointer (some ⟨w.heap.size, 0, none⟩)) (hy1 : a2.eval y1 = .agg (bvals la).toArray)
    (eb : a2.put s1.dst undef = a3) (hx2 : a3.eval (.tmp d2) = .pointer (some ⟨w.heap.size + 1, 0, none⟩)) (hy2 : a3.eval y2 = .agg (bvals lb).toArray)
    (h : ∀ w', Blk w' w.heap.size tB (bvals la) → Blk w' (w.heap.size + 1) tB (bvals lb) → Below w.heap.size w w' → wpList Tryz.prog ops Q rest (a3.put s2.dst undef) w') : wpList Tryz.prog ops Q (o1 :: o2 :: s1 :: s2 :: rest) a w := by
  have Q1 : Blk ((w.alloc (.cells zb.toArray tB)).alloc (.cells zb.toArray tB)) w.heap.size tB zb := (Blk.new w tB zb).alloc _
  have Q2 : Blk ((w.alloc (.cells zb.toArray tB)).alloc (.cells zb.toArray tB)) (w.heap.size + 1) tB zb := Blk.new2 _ _ _ zb
  refine alloc_ar h1 g1 e1 rfl ?_
  refine alloc_ar h2 g2 e2 (b := w.heap.size + 1) (by simp) ?_
  rw [ea]
  refine store_ar Q1 rfl l1 gs1 hs1 hx1 hy1 ?_
  rw [eb]
  refine store_ar (Q2.farRow (by omega) _) rfl l2 gs2 hs2 hx2 hy2 ?_
  exact h _ ((Q1.setRow _).farRow (by omega) _) ((Q2.farRow (by omega) _).setRow _) (below_row (below_row (below2 _ _ _) _ _ (by omega)) _ _ (by omega))
theorem ne_run (w : World) (l m : List UInt8) (hl : l.length = 32) (hm : m.length = 32) (h : l ≠ m) : (Op.equalIn 10000 tB (.agg (bvals l).toArray) (.agg (bvals m).toArray)).run Tryz.prog w = .ok false w := (eq32 w l m hl hm).trans (by rw [decide_eq_false h])
theorem run_bldZ {a : Act} {o : Oper} (ho : o.op = .build tB #[]) (w : World) : (execOp a.eval o).run Tryz.prog w = .ok (.value (.agg (bvals ZL).toArray)) w := by
  have h := bldZ w
  unfold execOp
  simp only [ho]
  simp [h]
theorem noGuard : Tryz.prog.eqGuardType Tryz.prog.depth tB = false := by kernel_rfl
theorem run_eqA {a : Act} {o : Oper} {x y : Operand} {l m : List UInt8} {b : Bool} {t2 : TypeId} {w : World} (ho : o.op = .binOp .eql tB x y t2) (hx : a.eval x = .agg (bvals l).toArray) (hy : a.eval y = .agg (bvals m).toArray)
    (h : (Op.equalIn 10000 tB (.agg (bvals l).toArray) (.agg (bvals m).toArray)).run Tryz.prog w = .ok b w) : (execOp a.eval o).run Tryz.prog w = .ok (.value (.bool b)) w := by
  unfold execOp
  simp only [ho, hx, hy, Sem.run_bind, run_eqGuard_agg _ _ _ _ _ _ _ noGuard, run_eql_struct, h, Result.andThen_ok, Sem.run_pure]
theorem run_neA {a : Act} {o : Oper} {x y : Operand} {l m : List UInt8} {b : Bool} {t2 : TypeId} {w : World} (ho : o.op = .binOp .neq tB x y t2) (hx : a.eval x = .agg (bvals l).toArray) (hy : a.eval y = .agg (bvals m).toArray)
    (h : (Op.equalIn 10000 tB (.agg (bvals l).toArray) (.agg (bvals m).toArray)).run Tryz.prog w = .ok b w) : (execOp a.eval o).run Tryz.prog w = .ok (.value (.bool (!b))) w := by
  unfold execOp
  simp only [ho, hx, hy, Sem.run_bind, run_eqGuard_agg _ _ _ _ _ _ _ noGuard, run_neq_struct, h, Result.andThen_ok, Sem.run_pure]
theorem eq_step {ops : Array Oper} {rest : List Oper} {o : Oper} {a : Act} {w : World} {Q : Exit → Act → World → Prop} {x y : Operand} {l m : List UInt8} {b : Bool} {t2 : TypeId} (h : (Op.equalIn 10000 tB (.agg (bvals l).toArray) (.agg (bvals m).toArray)).run Tryz.prog w = .ok b w)
    (hg : Region.wanted o (yielded ops a.tmps) = true) (ho : o.op = .binOp .eql tB x y t2) (hx : a.eval x = .agg (bvals l).toArray) (hy : a.eval y = .agg (bvals m).toArray) (hr : wpList Tryz.prog ops Q rest (a.put o.dst (.bool b)) w) : wpList Tryz.prog ops Q (o :: rest) a w := by
  unfold wpList
  rw [if_pos hg]
  refine .inl ?_
  unfold Oper.wp
  rw [run_eqA ho hx hy h]
  exact hr
end Go.Proofs.YtkhdhiddhnmdkaaGreatDoor

namespace Go.Proofs.YtkhdhiddhnmdkaaGreatDoor
open Go.RowKit
variable {md : Region.Mode} {ops : Array Oper} {w0 : World}

def storesB (md : Region.Mode) (ops : Array Oper) : Nat → Nat → Array Bool → Bool
  | 0, _, listed => decide (Region.ready md ops listed = [])
  | f + 1, k, listed => decide (Region.ready md ops listed = [k]) && storesB md ops f (k + 1) (listed.setIfInBounds k true)
def newsB (md : Region.Mode) (ops : Array Oper) (n m : Nat) : Nat → Array Bool → Bool
  | 0, listed => (List.range m).all (fun i => listed.getD (n + i) false) && storesB md ops m (n + m) listed
  | f + 1, listed => !(Region.ready md ops listed).isEmpty && (Region.ready md ops listed).all fun k => decide (n ≤ k) && decide (k < n + m) && newsB md ops n m f (listed.setIfInBounds k true)
theorem dr_any {P : Program} {K : Act → World → Prop} {f : Nat} {listed : Array Bool} {a : Act} {w : World} (hr : (Region.ready md ops listed).isEmpty = false)
    (h : ∀ k ∈ Region.ready md ops listed, ∀ w1, Rw w w1 → wpOp P ops QF k (fun a' w' => Rw w0 w' ∧ wpDr P md ops w0 K f (listed.setIfInBounds k true) a' w') a w1) : wpDr P md ops w0 K (f + 1) listed a w :=
  ⟨fun e => (by rw [e] at hr; cases hr), h⟩
theorem put_get (a : Act) (d : Tmp) (v : Value) (k : Tmp) (hd : d < a.tmps.size) : (a.put (some d) v).tmps.getD k undef = if d = k then v else a.tmps.getD k undef := by
  show (a.tmps.setIfInBounds d v).getD k undef = _
  by_cases h : d = k
  · subst h
    rw [if_pos rfl]
    simp [hd]
  · rw [if_neg h]
    simp [Array.getD_eq_getD_getElem?, Array.getElem?_setIfInBounds_ne h]
theorem act_ext {a b : Act} (h1 : a.defers = b.defers) (h2 : a.tmps.size = b.tmps.size) (h3 : ∀ k : Nat, a.tmps.getD k undef = b.tmps.getD k undef) : a = b := by
  obtain ⟨ta, da⟩ := a
  obtain ⟨tb, db⟩ := b
  simp only at h1 h2 h3
  obtain rfl := h1
  congr 1
  refine Array.ext h2 fun i hi hj => ?_
  have := h3 i
  rw [Array.getD_eq_getD_getElem?, Array.getD_eq_getD_getElem?, Array.getElem?_eq_getElem hi, Array.getElem?_eq_getElem hj] at this
  simpa using this
/-- what has been made so far -/
structure NS (t : TypeId) (z : List Nat) (d : Nat → Tmp) (n m : Nat) (w0 : World) (a : Act) (listed : Array Bool) (c : Nat → Nat) (a' : Act) (w : World) : Prop where
  defers : a'.defers = a.defers
  size : a'.tmps.size = a.tmps.size
  old : ∀ k, (∀ i, i < m → d i ≠ k) → a'.tmps.getD k undef = a.tmps.getD k undef
  new : ∀ i, i < m → listed.getD (n + i) false = true → a'.tmps.getD (d i) undef = .pointer (some ⟨c i, 0, none⟩) ∧ w0.heap.size ≤ c i ∧ Blk w (c i) t (uvals z)
  dist : ∀ i j, i < m → j < m → listed.getD (n + i) false = true → listed.getD (n + j) false = true → i ≠ j → c i ≠ c j
section
variable {t : TypeId} {sz : Nat} {z : List Nat}
theorem wp_stores {n m : Nat} {K : Act → World → Prop} {a : Act} (d : Nat → Tmp) (y : Nat → Tmp) (l : Nat → List Nat) (c : Nat → Nat)
    (hsz : (Tryz.prog.info? t).map (·.size) = some sz) (hz : z.length = sz)
    (iS : ∀ i, i < m → ∃ o, ops[n + m + i]? = some o ∧ o.op = .store t (.tmp (d i)) (.tmp (y i)) ∧ o.guard = none ∧ o.dst = none)
    (hl : ∀ i, i < m → (l i).length = sz)
    (hc : ∀ i j, i < m → j < m → i ≠ j → c i ≠ c j) (hc0 : ∀ i, i < m → w0.heap.size ≤ c i)
    (hx : ∀ i, i < m → a.eval (.tmp (d i)) = .pointer (some ⟨c i, 0, none⟩)) (hy : ∀ i, i < m → a.eval (.tmp (y i)) = .agg (uvals (l i)).toArray)
    (fin : ∀ w', (∀ i, i < m → Blk w' (c i) t (uvals (l i))) → Rw w0 w' → K a w') :
    ∀ (f j : Nat) (listed : Array Bool) (w : World), j + f = m → storesB md ops f (n + m + j) listed = true → Rw w0 w → (∀ i, i < m → Blk w (c i) t (uvals (if i < j then l i else z))) → wpDr Tryz.prog md ops w0 K f listed a w
  | 0, j, listed, w, hj, hB, hw, hb => by
    simp only [storesB, decide_eq_true_eq] at hB
    refine ⟨hB, fun w1 h1 => fin w1 (fun i hi => ?_) (Rw.trans hw h1)⟩
    have := hb i hi
    rw [if_pos (by omega)] at this
    exact this.below h1 this.lt
  | f + 1, j, listed, w, hj, hB, hw, hb => by
    simp only [storesB, Bool.and_eq_true, decide_eq_true_eq] at hB
    have hjm : j < m := by omega
    obtain ⟨o, ho, hop, hg, hds⟩ := iS j hjm
    have hbj := hb j hjm
    rw [if_neg (Nat.lt_irrefl j)] at hbj
    refine dr_one hB.1 fun w1 hw1 => op_store hsz (hbj.below hw1 hbj.lt) hz (hl j hjm) ho hg hds hop (hx j hjm) (hy j hjm) ?_
    have hW : Rw w0 (w1.setRow (c j) (uvals (l j)).toArray) := below_row (Rw.trans hw hw1) _ _ (hc0 j hjm)
    refine ⟨hW, wp_stores d y l c hsz hz iS hl hc hc0 hx hy fin f (j + 1) _ _ (by omega) hB.2 hW fun i hi => ?_⟩
    have hbi := hb i hi
    by_cases hij : i = j
    · subst hij
      rw [if_pos (by omega)]
      exact (hbi.below hw1 hbi.lt).setRow (uvals (l i))
    · have e : (i < j + 1) = (i < j) := by apply propext; omega
      rw [show (if i < j + 1 then l i else z) = (if i < j then l i else z) by simp only [e]]
      exact (hbi.below hw1 hbi.lt).farRow (hc i j hi hjm hij) _
theorem wp_news {n m : Nat} {K : Act → World → Prop} {a : Act} (d : Nat → Tmp) (y : Nat → Tmp) (l : Nat → List Nat)
    (hal : ∀ w, (Instr.alloc t true (.tuple #[])).run Tryz.prog w = .ok (.pointer (some ⟨w.heap.size, 0, none⟩)) (w.alloc (.cells (uvals z).toArray t)))
    (hsz : (Tryz.prog.info? t).map (·.size) = some sz) (hz : z.length = sz)
    (iA : ∀ i, i < m → ∃ o, ops[n + i]? = some o ∧ o.op = .alloc t ∧ o.guard = none ∧ o.dst = some (d i))
    (iS : ∀ i, i < m → ∃ o, ops[n + m + i]? = some o ∧ o.op = .store t (.tmp (d i)) (.tmp (y i)) ∧ o.guard = none ∧ o.dst = none)
    (hd : ∀ i j, i < m → j < m → i ≠ j → d i ≠ d j) (hdy : ∀ i j, i < m → j < m → d i ≠ y j) (hdt : ∀ i, i < m → d i < a.tmps.size)
    (hy : ∀ i, i < m → a.eval (.tmp (y i)) = .agg (uvals (l i)).toArray) (hl : ∀ i, i < m → (l i).length = sz)
    (fin : ∀ (c : Nat → Nat) a' w', (∀ i j, i < m → j < m → i ≠ j → c i ≠ c j) → (∀ i, i < m → w0.heap.size ≤ c i ∧ Blk w' (c i) t (uvals (l i))) → Rw w0 w' → a'.defers = a.defers → a'.tmps.size = a.tmps.size →
      (∀ k, (∀ i, i < m → d i ≠ k) → a'.tmps.getD k undef = a.tmps.getD k undef) → (∀ i, i < m → a'.tmps.getD (d i) undef = .pointer (some ⟨c i, 0, none⟩)) → K a' w') :
    ∀ (f : Nat) (listed : Array Bool) (c : Nat → Nat) (a' : Act) (w : World), listed.size = ops.size → newsB md ops n m f listed = true → Rw w0 w → NS t z d n m w0 a listed c a' w → wpDr Tryz.prog md ops w0 K (f + m) listed a' w
  | 0, listed, c, a', w, hls, hB, hw, hN => by
    simp only [newsB, Bool.and_eq_true, List.all_eq_true, List.mem_range] at hB
    rw [Nat.zero_add]
    refine wp_stores (a := a') d y l c hsz hz iS hl (fun i j hi hj hne => hN.dist i j hi hj (hB.1 i hi) (hB.1 j hj) hne) (fun i hi => (hN.new i hi (hB.1 i hi)).2.1) (fun i hi => (hN.new i hi (hB.1 i hi)).1)
      (fun i hi => ?_) (fun w' hb hw' => ?_) m 0 listed w (Nat.zero_add _) hB.2 hw (fun i hi => ?_)
    · exact (hN.old (y i) (fun j hj => hdy j i hj hi)).trans (hy i hi)
    · exact fin c a' w' (fun i j hi hj hne => hN.dist i j hi hj (hB.1 i hi) (hB.1 j hj) hne) (fun i hi => ⟨(hN.new i hi (hB.1 i hi)).2.1, hb i hi⟩) hw' hN.defers hN.size hN.old (fun i hi => (hN.new i hi (hB.1 i hi)).1)
    · rw [if_neg (Nat.not_lt_zero _)]
      exact (hN.new i hi (hB.1 i hi)).2.2
  | f + 1, listed, c, a', w, hls, hB, hw, hN => by
    simp only [newsB, Bool.and_eq_true, Bool.not_eq_true', List.all_eq_true, decide_eq_true_eq] at hB
    rw [Nat.add_right_comm]
    refine dr_any hB.1 fun k hk w1 hw1 => ?_
    obtain ⟨⟨h1, h2⟩, h3⟩ := hB.2 k hk
    obtain ⟨i, rfl⟩ : ∃ i, k = n + i := ⟨k - n, by omega⟩
    have hi : i < m := by omega
    have hun := (mem_ready.1 hk).1
    obtain ⟨o, ho, hop, hg, hds⟩ := iA i hi
    refine op_alloc hal ho hg hop hds ?_
    have hWa : Rw w0 (w1.alloc (.cells (uvals z).toArray t)) := Below.alloc (Rw.trans hw hw1) (Rw.trans hw hw1).size _
    have hdi : d i < a'.tmps.size := by rw [hN.size]; exact hdt i hi
    have hun' : listed.getD (n + i) false = false := by
      cases h : listed.getD (n + i) false
      · rfl
      · exact (not_both hun h).elim
    have hlt : n + i < listed.size := by
      rw [hls]
      exact (Array.getElem?_eq_some_iff.1 ho).1
    refine ⟨hWa, wp_news d y l hal hsz hz iA iS hd hdy hdt hy hl fin f _ (fun j => if j = i then w1.heap.size else c j) _ _ (by simpa using hls) h3 hWa ?_⟩
    refine ⟨hN.defers, by show (a'.tmps.setIfInBounds _ _).size = _; simpa using hN.size, fun k hk => ?_, fun j hj hlj => ?_, fun j j' hj hj' hlj hlj' hne => ?_⟩
    · rw [put_get _ _ _ _ hdi, if_neg (hk i hi)]
      exact hN.old k hk
    · by_cases hji : j = i
      · subst hji
        rw [put_get _ _ _ _ hdi, if_pos rfl, if_pos rfl]
        exact ⟨rfl, (Rw.trans hw hw1).size, Blk.new w1 t (uvals z)⟩
      · rw [put_get _ _ _ _ hdi, if_neg (hd i j hi hj (Ne.symm hji)), if_neg hji]
        rw [getD_set_ne false (by omega)] at hlj
        obtain ⟨q1, q2, q3⟩ := hN.new j hj hlj
        exact ⟨q1, q2, (q3.below hw1 q3.lt).alloc _⟩
    · have far : ∀ u, u < m → u ≠ i → (listed.setIfInBounds (n + i) true).getD (n + u) false = true → c u < w1.heap.size := fun u hu hui hlu => by
        rw [getD_set_ne false (by omega)] at hlu
        have := (hN.new u hu hlu).2.2
        exact (this.below hw1 this.lt).lt
      by_cases hji : j = i
      · subst hji
        have := far j' hj' (Ne.symm hne) hlj'
        rw [if_pos rfl, if_neg (Ne.symm hne)]
        omega
      · rw [if_neg hji]
        by_cases hji' : j' = i
        · subst hji'
          have := far j hj hne hlj
          rw [if_pos rfl]
          omega
        · rw [if_neg hji']
          rw [getD_set_ne false (by omega)] at hlj hlj'
          exact hN.dist j j' hj hj' hlj hlj' hne
end
theorem wpQD_mono {P : Program} {Kq Kq' : Act → Prop} (h : ∀ a, Kq a → Kq' a) : ∀ (l : List Oper) (a : Act), wpQD P ops w0 Kq l a → wpQD P ops w0 Kq' l a
  | [], a, hq => h a hq
  | o :: rest, a, hq => by
    simp only [wpQD] at hq ⊢
    split
    · rename_i hw
      rw [if_pos hw] at hq
      exact hq.imp fun v hv => ⟨hv.1, wpQD_mono h rest _ hv.2⟩
    · rename_i hw
      rw [if_neg hw] at hq
      exact wpQD_mono h rest _ hq
def driftNB (md : Region.Mode) (ops : Array Oper) (n m : Nat) : Bool := Region.noSelect ops && decide (ops.size = n + (m + m)) && lexHeadT md ops (fun l => decide (l.size = ops.size) && ((List.range m).all fun i => !l.getD (n + i) false) && newsB md ops n m m l) n 0 (Array.replicate ops.size false)
theorem wp_region_driftN {P : Program} {id : Nat} {Q : Exit → Act → World → Prop} {a : Act} {w : World} {l : List Oper} (n m : Nat) (hm : P.follows .mixedOrders = true) (hB : driftNB .any l.toArray n m = true)
    (h : wpQD P l.toArray w.drew (fun a' => ∀ listed, (listed.size = l.toArray.size ∧ (∀ i, i < m → listed.getD (n + i) false = false) ∧ newsB .any l.toArray n m m listed = true) → wpDr P .any l.toArray w.drew (fun a'' w'' => Q .normal a'' w'') (m + m) listed a' w.drew) (l.take n) a) : (Code.region id l.toArray true).wp P Q a w := by
  simp only [driftNB, Bool.and_eq_true, decide_eq_true_eq] at hB
  obtain ⟨⟨hsel, hn⟩, hlex⟩ := hB
  have hn' : l.length = n + (m + m) := by simpa using hn
  have htl : (l.take n).length = n := by rw [List.length_take]; omega
  have G := wpDr_headT (md := .any) (g := m + m) (T := fun L => decide (L.size = l.toArray.size) && ((List.range m).all fun i => !L.getD (n + i) false) && newsB .any l.toArray n m m L) hsel w.drew (Rw.refl _) (l.take n) 0 (Array.replicate l.toArray.size false) a
    (fun j oj _ hl => (by rw [getD_replicate_false] at hl; cases hl)) (fun j hj => by rw [htl] at hj; simp [hj]) (by rw [htl]; exact hlex)
    (by
      refine wpQD_mono (fun a' ha' listed hT => ?_) _ _ h
      simp only [Bool.and_eq_true, decide_eq_true_eq, List.all_eq_true, List.mem_range, Bool.not_eq_true'] at hT
      exact ha' listed ⟨hT.1.1, hT.1.2, hT.2⟩)
  refine wp_region_any hm ?_
  rw [htl, show n + (m + m) = l.toArray.size from by simp; omega] at G
  exact wpAny_of_dr (fun _ _ h => h) _ _ _ _ G
section
variable {t : TypeId} {sz : Nat} {z : List Nat}
theorem lt4 {P : Nat → Prop} (h0 : P 0) (h1 : P 1) (h2 : P 2) (h3 : P 3) (i : Nat) (h : i < 4) : P i := by
  rcases i with _ | _ | _ | _ | i
  · exact h0
  · exact h1
  · exact h2
  · exact h3
  · omega
/-- four of them -/
theorem wp_four {n : Nat} {listed : Array Bool} {K : Act → World → Prop} {oa0 oa1 oa2 oa3 os0 os1 os2 os3 : Oper} {a : Act} {d0 d1 d2 d3 y0 y1 y2 y3 : Tmp} {l0 l1 l2 l3 : List Nat}
    (hal : ∀ w, (Instr.alloc t true (.tuple #[])).run Tryz.prog w = .ok (.pointer (some ⟨w.heap.size, 0, none⟩)) (w.alloc (.cells (uvals z).toArray t))) (hsz : (Tryz.prog.info? t).map (·.size) = some sz) (hz : z.length = sz)
    (i0 : ops[n]? = some oa0) (i1 : ops[n + 1]? = some oa1) (i2 : ops[n + 2]? = some oa2) (i3 : ops[n + 3]? = some oa3) (i4 : ops[n + 4]? = some os0) (i5 : ops[n + 4 + 1]? = some os1) (i6 : ops[n + 4 + 2]? = some os2) (i7 : ops[n + 4 + 3]? = some os3)
    (A0 : oa0.op = .alloc t ∧ oa0.guard = none ∧ oa0.dst = some d0) (A1 : oa1.op = .alloc t ∧ oa1.guard = none ∧ oa1.dst = some d1) (A2 : oa2.op = .alloc t ∧ oa2.guard = none ∧ oa2.dst = some d2) (A3 : oa3.op = .alloc t ∧ oa3.guard = none ∧ oa3.dst = some d3)
    (S0 : os0.op = .store t (.tmp d0) (.tmp y0) ∧ os0.guard = none ∧ os0.dst = none) (S1 : os1.op = .store t (.tmp d1) (.tmp y1) ∧ os1.guard = none ∧ os1.dst = none) (S2 : os2.op = .store t (.tmp d2) (.tmp y2) ∧ os2.guard = none ∧ os2.dst = none) (S3 : os3.op = .store t (.tmp d3) (.tmp y3) ∧ os3.guard = none ∧ os3.dst = none)
    (hd : [d0, d1, d2, d3, y0, y1, y2, y3].Nodup) (hdt : d0 < a.tmps.size ∧ d1 < a.tmps.size ∧ d2 < a.tmps.size ∧ d3 < a.tmps.size)
    (Y0 : a.eval (.tmp y0) = .agg (uvals l0).toArray) (Y1 : a.eval (.tmp y1) = .agg (uvals l1).toArray) (Y2 : a.eval (.tmp y2) = .agg (uvals l2).toArray) (Y3 : a.eval (.tmp y3) = .agg (uvals l3).toArray)
    (L0 : l0.length = sz) (L1 : l1.length = sz) (L2 : l2.length = sz) (L3 : l3.length = sz)
    (hT : listed.size = ops.size ∧ (∀ i, i < 4 → listed.getD (n + i) false = false) ∧ newsB md ops n 4 4 listed = true)
    (fin : ∀ c0 c1 c2 c3 w', w0.heap.size ≤ c0 → w0.heap.size ≤ c1 → w0.heap.size ≤ c2 → w0.heap.size ≤ c3 → Rw w0 w' → Blk w' c0 t (uvals l0) → Blk w' c1 t (uvals l1) → Blk w' c2 t (uvals l2) → Blk w' c3 t (uvals l3) →
      K ((((a.put (some d0) (.pointer (some ⟨c0, 0, none⟩))).put (some d1) (.pointer (some ⟨c1, 0, none⟩))).put (some d2) (.pointer (some ⟨c2, 0, none⟩))).put (some d3) (.pointer (some ⟨c3, 0, none⟩))) w') :
    wpDr Tryz.prog md ops w0 K (4 + 4) listed a w0 := by
  simp only [List.nodup_cons, List.mem_cons, List.not_mem_nil, or_false, not_or] at hd
  obtain ⟨⟨n01, n02, n03, m00, m01, m02, m03⟩, ⟨n12, n13, m10, m11, m12, m13⟩, ⟨n23, m20, m21, m22, m23⟩, ⟨m30, m31, m32, m33⟩, _⟩ := hd
  have D : ∀ (d : Nat → Tmp), d 0 = d0 → d 1 = d1 → d 2 = d2 → d 3 = d3 → ∀ i j, i < 4 → j < 4 → i ≠ j → d i ≠ d j := by
    intro d e0 e1 e2 e3 i j hi hj
    revert j
    revert i
    refine lt4 ?_ ?_ ?_ ?_ <;> · intro j hj; revert j; refine lt4 ?_ ?_ ?_ ?_ <;> simp [e0, e1, e2, e3, n01, n02, n03, n12, n13, n23, Ne.symm n01, Ne.symm n02, Ne.symm n03, Ne.symm n12, Ne.symm n13, Ne.symm n23]
  refine wp_news (a := a) (n := n) (m := 4) (fun i => match i with | 0 => d0 | 1 => d1 | 2 => d2 | _ => d3) (fun i => match i with | 0 => y0 | 1 => y1 | 2 => y2 | _ => y3) (fun i => match i with | 0 => l0 | 1 => l1 | 2 => l2 | _ => l3) hal hsz hz
    (lt4 ⟨_, i0, A0⟩ ⟨_, i1, A1⟩ ⟨_, i2, A2⟩ ⟨_, i3, A3⟩) (lt4 ⟨_, i4, S0⟩ ⟨_, i5, S1⟩ ⟨_, i6, S2⟩ ⟨_, i7, S3⟩) (D _ rfl rfl rfl rfl)
    (fun i j hi hj => ?_) (lt4 hdt.1 hdt.2.1 hdt.2.2.1 hdt.2.2.2) (lt4 Y0 Y1 Y2 Y3) (lt4 L0 L1 L2 L3) (fun c a' w' hc hb hw' h1 h2 h3 h4 => ?_) 4 listed (fun _ => 0) a w0 hT.1 hT.2.2 (Rw.refl _) ?_
  · revert j
    revert i
    refine lt4 ?_ ?_ ?_ ?_ <;> refine lt4 ?_ ?_ ?_ ?_ <;> assumption
  · have E : a' = (((a.put (some d0) (.pointer (some ⟨c 0, 0, none⟩))).put (some d1) (.pointer (some ⟨c 1, 0, none⟩))).put (some d2) (.pointer (some ⟨c 2, 0, none⟩))).put (some d3) (.pointer (some ⟨c 3, 0, none⟩)) := by
      have z1 : ∀ (b : Act) d v, (b.put (some d) v).tmps.size = b.tmps.size := fun b d v => by show (b.tmps.setIfInBounds _ _).size = _; simp
      refine act_ext h1 (by rw [z1, z1, z1, z1]; exact h2) fun k => ?_
      rw [put_get _ _ _ _ (by rw [z1, z1, z1]; exact hdt.2.2.2), put_get _ _ _ _ (by rw [z1, z1]; exact hdt.2.2.1), put_get _ _ _ _ (by rw [z1]; exact hdt.2.1), put_get _ _ _ _ hdt.1]
      by_cases k3 : d3 = k
      · rw [if_pos k3, ← k3]; exact h4 3 (by decide)
      · rw [if_neg k3]
        by_cases k2 : d2 = k
        · rw [if_pos k2, ← k2]; exact h4 2 (by decide)
        · rw [if_neg k2]
          by_cases k1 : d1 = k
          · rw [if_pos k1, ← k1]; exact h4 1 (by decide)
          · rw [if_neg k1]
            by_cases k0 : d0 = k
            · rw [if_pos k0, ← k0]; exact h4 0 (by decide)
            · rw [if_neg k0]
              exact h3 k (lt4 k0 k1 k2 k3)
    rw [E]
    exact fin _ _ _ _ w' (hb 0 (by decide)).1 (hb 1 (by decide)).1 (hb 2 (by decide)).1 (hb 3 (by decide)).1 hw' (hb 0 (by decide)).2 (hb 1 (by decide)).2 (hb 2 (by decide)).2 (hb 3 (by decide)).2
  · exact ⟨rfl, rfl, fun _ _ => rfl, fun i hi h => (by rw [hT.2.1 i hi] at h; cases h), fun i j hi _ h => (by rw [hT.2.1 i hi] at h; cases h)⟩
end
end Go.Proofs.YtkhdhiddhnmdkaaGreatDoor
