/-
Arrays of 32 bytes that a law makes; curve.Base.
The curve's laws without the program: both ends have the same, and not 0.
The curve's laws: the fixed facts.
-/
import Derived.Test.YtilccncddbgpbaaDoorPk36
namespace Go.Proofs.YtilccncddbgpbaaDoor
open Go.RowKit

def zb : List Value := List.replicate 32 (.int .u8 0)
theorem bone (l : List UInt8) : ∀ v ∈ bvals l, v.oneCell' = true := by
  intro v hv
  obtain ⟨d, _, rfl⟩ := List.mem_map.1 hv
  rfl
theorem blen {l : List UInt8} (h : l.length = 32) : (bvals l).length = 32 := by rw [bvals_len, h]
theorem run_alloc_ar (w : World) : (Instr.alloc tB true (.tuple #[])).run Tryd.prog w = .ok (.pointer (some ⟨w.heap.size, 0, none⟩)) (w.alloc (.cells zb.toArray tB)) := by kernel_rfl
theorem load_ar {ops : Array Oper} {rest : List Oper} {o : Oper} {a : Act} {w : World} {Q : Exit → Act → World → Prop} {b : Nat} {x : Operand} {l : List UInt8} (hb : Blk w b tB (bvals l)) (hl : l.length = 32)
    (hg : Region.wanted o (yielded ops a.tmps) = true) (ho : o.op = .load tB x) (hx : a.eval x = .pointer (some ⟨b, 0, none⟩)) (h : wpList Tryd.prog ops Q rest (a.put o.dst (.agg (bvals l).toArray)) w) : wpList Tryd.prog ops Q (o :: rest) a w := by
  unfold wpList
  rw [if_pos hg]
  exact .inl (wp_load_row tB x ho b hx tB _ (0, 0) _ hb Tryd.underlying22 rfl (by rw [arr32_size]; simp [bvals_len, hl]) h)
theorem alloc_ar {ops : Array Oper} {rest : List Oper} {o : Oper} {a : Act} {w : World} {Q : Exit → Act → World → Prop} {d b : Nat} (ha : o.op = .alloc tB) (hg : o.guard = none) (hd : o.dst = some d) (hb : b = w.heap.size)
    (h : wpList Tryd.prog ops Q rest (a.put (some d) (.pointer (some ⟨b, 0, none⟩))) (w.alloc (.cells zb.toArray tB))) : wpList Tryd.prog ops Q (o :: rest) a w := by
  refine wpList_plain hg fun K1 hK1 => ?_
  unfold Oper.wp execOp
  simp only [ha, Sem.run_bind, run_alloc_ar w, Result.andThen_ok, Sem.run_pure, Oper.upon]
  refine hK1 _ _ ?_
  rw [hd, ← hb]
  exact h
theorem store_ar {ops : Array Oper} {rest : List Oper} {o : Oper} {a : Act} {w : World} {Q : Exit → Act → World → Prop} {b : Nat} {x y : Operand} {old : List Value} {l : List UInt8} (hb : Blk w b tB old) (hold : old.length = 32) (hl : l.length = 32)
    (hgd : o.guard = none) (ho : o.op = .store tB x y) (hx : a.eval x = .pointer (some ⟨b, 0, none⟩)) (hy : a.eval y = .agg (bvals l).toArray)
    (h : wpList Tryd.prog ops Q rest (a.put o.dst undef) (w.setRow b (bvals l).toArray)) : wpList Tryd.prog ops Q (o :: rest) a w :=
  store_blk (n := 32) hb arr32_size (blen hl) hold (bone l) hgd ho hx hy h
theorem new1B {ops : Array Oper} {rest : List Oper} {o1 s1 : Oper} {a : Act} {w : World} {Q : Exit → Act → World → Prop} {d1 : Nat} {y1 : Operand} {la : List UInt8}
    (h1 : o1.op = .alloc tB) (g1 : o1.guard = none) (e1 : o1.dst = some d1) (hs1 : s1.op = .store tB (.tmp d1) y1) (gs1 : s1.guard = none) (l1 : la.length = 32)
    (hy1 : (a.put (some d1) (.pointer (some ⟨w.heap.size, 0, none⟩))).eval y1 = .agg (bvals la).toArray)
    (hx1 : (a.put (some d1) (.pointer (some ⟨w.heap.size, 0, none⟩))).eval (.tmp d1) = .pointer (some ⟨w.heap.size, 0, none⟩))
    (h : ∀ w', Blk w' w.heap.size tB (bvals la) → Below w.heap.size w w' → wpList Tryd.prog ops Q rest ((a.put (some d1) (.pointer (some ⟨w.heap.size, 0, none⟩))).put s1.dst undef) w') : wpList Tryd.prog ops Q (o1 :: s1 :: rest) a w := by
  have Q1 : Blk (w.alloc (.cells zb.toArray tB)) w.heap.size tB zb := Blk.new w tB zb
  refine alloc_ar h1 g1 e1 rfl ?_
  refine store_ar Q1 rfl l1 gs1 hs1 hx1 hy1 ?_
  exact h _ (Q1.setRow _) (below_row (below1 _ _) _ _ (Nat.le_refl _))
section
variable {ops : Array Oper} {w0 : World} {K : Act → World → Prop}
theorem driftT_allocB {o : Oper} {rest : List Oper} {a : Act} {w : World} {d : Tmp}
    (hw0 : Rw w0 w) (hg : o.guard = none) (ha : o.op = .alloc tB) (hd : o.dst = some d) (h : ∀ c w', Rw w w' → w.heap.size ≤ c → Blk w' c tB zb → wpListD Tryd.prog ops w0 K rest (a.put (some d) (.pointer (some ⟨c, 0, none⟩))) w') :
    wpListD Tryd.prog ops w0 K (o :: rest) a w := by
  refine driftT_make (G := fun v w' => ∃ c, v = .pointer (some ⟨c, 0, none⟩) ∧ w.heap.size ≤ c ∧ Blk w' c tB zb) hw0 (by simp [Region.wanted, hg]) (fun w1 h1 => ?_) ?_
  · refine ⟨_, _, ?_, (Below.refl _ _).alloc (Nat.le_refl _) _, ⟨w1.heap.size, rfl, h1.size, Blk.new w1 tB zb⟩⟩
    unfold execOp
    simp only [ha, Sem.run_bind, run_alloc_ar w1, Result.andThen_ok, Sem.run_pure]
  · rintro v w' hw ⟨c, rfl, hc, hb⟩
    rw [hd]
    exact h c w' hw hc hb
theorem driftT_storeB {old : List Value} {l : List UInt8} {o : Oper} {rest : List Oper} {a : Act} {w : World} {b : Nat} {x y : Operand} (hw0 : Rw w0 w) (hb : Blk w b tB old) (hold : old.length = 32) (hl : l.length = 32)
    (hnew : w0.heap.size ≤ b) (hg : o.guard = none) (hds : o.dst = none) (ho : o.op = .store tB x y) (hx : a.eval x = .pointer (some ⟨b, 0, none⟩)) (hy : a.eval y = .agg (bvals l).toArray)
    (h : ∀ w', Rw w0 w' → Blk w' b tB (bvals l) → wpListD Tryd.prog ops w0 K rest a w') : wpListD Tryd.prog ops w0 K (o :: rest) a w := by
  refine driftT_step (fun w1 h1 Q' hQ' => ?_)
  have hb1 := hb.below h1 hb.lt
  have hW1 := Rw.trans hw0 h1
  refine store_blk (n := 32) (t := tB) (b := b) (old := old) (cs := bvals l) hb1 arr32_size (blen hl) hold (bone l) hg ho hx hy ?_
  have hW2 : Rw w0 (w1.setRow b (bvals l).toArray) := below_row hW1 _ _ hnew
  refine hQ' _ _ hW2 ?_
  rw [hds]
  exact h _ hW2 (hb1.setRow _)
end
/-- the secret's bytes -/
def multB (l p : List UInt8) : List UInt8 := leBytes (Ed.multF (KN l) (fpOf ⟨p.toArray⟩)).val 32
def okB (l p : List UInt8) : Bool := !decide (Ed.multF (KN l) (fpOf ⟨p.toArray⟩) = 0)
def nineB : List UInt8 := 9 :: List.replicate 31 0
theorem multB_len (l p : List UInt8) : (multB l p).length = 32 := by simp [multB, leBytes]
theorem multC (l p : List UInt8) (hl : l.length = 32) (hp : p.length = 32) (w : World) : Calls Tryd.prog 18 #[.agg (bvals l).toArray, .agg (bvals p).toArray] w fun e w' => e = .returned (.tuple #[.agg (bvals (multB l p)).toArray, .bool (okB l p)]) ∧ Below w.heap.size w w' := mult_ok l p hl hp w
theorem bldNine (w : World) : (Instr.build tB #[(0, .int .u8 9)]).run Tryd.prog w = .ok (.agg (bvals nineB).toArray) w := run_build w tB #[(0, .int .u8 9)] _ (by kernel_rfl)
theorem bld_step {ops : Array Oper} {rest : List Oper} {o : Oper} {a : Act} {w : World} {Q : Exit → Act → World → Prop} {k n : Nat} {l : List UInt8} (hb : (Instr.build tB #[(k, .int .u8 (n : Nat))]).run Tryd.prog w = .ok (.agg (bvals l).toArray) w)
    (hg : o.guard = none) (ho : o.op = .build tB #[(k, .const (.int .u8 (n : Nat)))]) (h : wpList Tryd.prog ops Q rest (a.put o.dst (.agg (bvals l).toArray)) w) : wpList Tryd.prog ops Q (o :: rest) a w :=
  wpList_plain hg fun K hK => by
    unfold Oper.wp execOp
    have e : a.eval (.const (.int .u8 (n : Nat))) = .int .u8 (n : Nat) := rfl
    simp only [ho]
    simp [e, hb, Oper.upon]
    exact hK _ _ h
set_option maxHeartbeats 2000000 in
set_option maxRecDepth 100000 in
theorem base_ok (l : List UInt8) (hl : l.length = 32) (w : World) : Calls Tryd.prog 5 #[.agg (bvals l).toArray] w fun e w' => e = .returned (.agg (bvals (multB l nineB)).toArray) ∧ Below w.heap.size w w' := by
  have ML := multB_len l nineB
  have MC := fun w' => multC l nineB hl rfl w'
  have N9 := bldNine
  generalize multB l nineB = X at *
  generalize okB l nineB = ok at *
  generalize nineB = n9 at *
  go_enter Tryd.func5, Tryd.ntmps5
  go_upto_region 1 with fail
  refine wp_gen (fun wx => Blk wx w.heap.size tB (bvals l) ∧ Blk wx (w.heap.size + 1) tB zb ∧ Below w.heap.size w wx) ⟨(Blk.new w _ (bvals l)).alloc _, Blk.new2 _ _ _ zb, below2 _ _ _⟩ ?_
  rintro w1 ⟨O1, O2, BW⟩
  go_wp2_with (first | refine load_ar O1 hl rfl rfl rfl ?_ | refine bld_step (k := 0) (n := 9) (l := n9) (N9 w1) rfl rfl ?_)
  refine (MC w1).mono ?_
  rintro e w2 ⟨rfl, hb⟩
  replace O2 := O2.below hb O2.lt
  replace BW := BW.trans (hb.mono BW.size)
  clear hb O1
  go_upto_region 2 with (refine new1B rfl rfl rfl rfl rfl ML (by go_simp) (by go_simp) (fun w3 R hb => ?_))
  replace O2 := O2.below hb O2.lt
  replace BW := BW.trans (hb.mono BW.size)
  go_simp
  go_wp2_with (first | refine load_ar R ML rfl rfl rfl ?_ | refine store_ar O2 rfl ML rfl rfl rfl rfl ?_)
  exact ret_blk rfl (O2.setRow _) Tryd.underlying22 rfl arr32_size (blen ML) rfl rfl ⟨rfl, below_row BW _ _ (by omega)⟩
end Go.Proofs.YtilccncddbgpbaaDoor

namespace Go.Proofs.YtilccncddbgpbaaDoor
open Go.RowKit

theorem fpOf_le (X : Fp) : fpOf ⟨(leBytes X.val 32).toArray⟩ = X := by
  have h1 : X.val < 2 ^ 255 := Nat.lt_trans X.isLt (by decide)
  have h2 : (leBytes X.val 32).take 32 = leBytes X.val 32 := List.take_of_length_le (by simp [leBytes])
  have h3 : (2 : Nat) ^ 255 < 256 ^ 32 := by decide
  unfold fpOf ofB
  show Fp.ofN (le8 ((leBytes X.val 32).take 32) % 2 ^ 255) = X
  rw [h2, le8_leBytes, Nat.mod_eq_of_lt (Nat.lt_trans h1 h3), Nat.mod_eq_of_lt h1, Fp.ofN_val]
theorem fpOf_multB (l p : List UInt8) : fpOf ⟨(multB l p).toArray⟩ = Ed.multF (KN l) (fpOf ⟨p.toArray⟩) := fpOf_le _
theorem fpOf_nine : fpOf ⟨nineB.toArray⟩ = 9 := by decide +kernel
theorem cross_dvd {a b : List UInt8} (ha : a.length = 32) (hb : b.length = 32) : ¬ Ed.ell ∣ KN a * KN b := fun h =>
  (Ed.ell_prm.dvd_mul h).elim (Ed.not_dvd_clamp (KN_ok ha).1 (KN_ok ha).2.1 (KN_ok ha).2.2) (Ed.not_dvd_clamp (KN_ok hb).1 (KN_ok hb).2.1 (KN_ok hb).2.2)
theorem single_dvd {a : List UInt8} (ha : a.length = 32) : ¬ Ed.ell ∣ KN a := Ed.not_dvd_clamp (KN_ok ha).1 (KN_ok ha).2.1 (KN_ok ha).2.2
theorem secret {a b : List UInt8} (ha : a.length = 32) (hb : b.length = 32) : Ed.multF (KN a) (fpOf ⟨(multB b nineB).toArray⟩) = Ed.uOf (Ed.smul (KN a * KN b) Ed.B) := by
  rw [fpOf_multB, fpOf_nine, Ed.mult_base (KN_ok hb).2.2, Ed.mult_next (single_dvd hb) (KN_ok ha).2.2]
theorem two_eq {a b : List UInt8} (ha : a.length = 32) (hb : b.length = 32) : multB a (multB b nineB) = multB b (multB a nineB) := by
  unfold multB
  rw [show (leBytes (Ed.multF (KN b) (fpOf ⟨nineB.toArray⟩)).val 32) = multB b nineB from rfl, show (leBytes (Ed.multF (KN a) (fpOf ⟨nineB.toArray⟩)).val 32) = multB a nineB from rfl, secret ha hb, secret hb ha, Nat.mul_comm]
theorem secret_ne {a b : List UInt8} (ha : a.length = 32) (hb : b.length = 32) : Ed.multF (KN a) (fpOf ⟨(multB b nineB).toArray⟩) ≠ 0 := by
  rw [secret ha hb]
  have f := Ed.fine (cross_dvd ha hb)
  exact Ed.uOf_ne f.1 f.2
theorem two_ok {a b : List UInt8} (ha : a.length = 32) (hb : b.length = 32) : okB a (multB b nineB) = true := by
  unfold okB
  rw [decide_eq_false (secret_ne ha hb)]
  rfl
theorem three {a b c : List UInt8} (ha : a.length = 32) (hb : b.length = 32) (hc : c.length = 32) : Ed.multF (KN c) (fpOf ⟨(multB b (multB a nineB)).toArray⟩) = Ed.uOf (Ed.smul (KN c * (KN b * KN a)) Ed.B) := by
  rw [fpOf_multB, secret hb ha, Ed.mult_next (cross_dvd hb ha) (KN_ok hc).2.2]
theorem three_eq {a b c : List UInt8} (ha : a.length = 32) (hb : b.length = 32) (hc : c.length = 32) : multB c (multB b (multB a nineB)) = multB b (multB a (multB c nineB)) := by
  have h1 := three ha hb hc
  have h2 := three hc ha hb
  have e : KN c * (KN b * KN a) = KN b * (KN a * KN c) := by rw [Nat.mul_comm (KN b) (KN a), ← Nat.mul_assoc, Nat.mul_comm (KN c), Nat.mul_comm]
  rw [e, ← h2] at h1
  show leBytes (Ed.multF (KN c) (fpOf ⟨(multB b (multB a nineB)).toArray⟩)).val 32 = leBytes (Ed.multF (KN b) (fpOf ⟨(multB a (multB c nineB)).toArray⟩)).val 32
  rw [h1]
/-! the fixed facts -/
def LA : List UInt8 := List.replicate 8 0 ++ 7 :: List.replicate 23 0
def LB : List UInt8 := List.replicate 20 0 ++ 9 :: List.replicate 11 0
theorem quot_ne {x z i x' z' i' : Fp} (h1 : z * i = 1) (h2 : z' * i' = 1) (h : x * i = x' * i') : x * z' = x' * z := by grind
theorem lt_all (X : Fp) : X.val < 256 ^ 32 := Nat.lt_trans X.isLt (by decide)
theorem base_ne : multB LA nineB ≠ multB LB nineB := by
  intro e
  have h : Ed.multF (KN LA) 9 = Ed.multF (KN LB) 9 := by
    have := leBytes_inj (lt_all _) (lt_all _) e
    rw [fpOf_nine] at this
    exact Fin.ext this
  have z1 : (Ed.lad 9 (KN LA) 255).Z1 ≠ 0 := by decide +kernel
  have z2 : (Ed.lad 9 (KN LB) 255).Z1 ≠ 0 := by decide +kernel
  have hne : ¬ (Ed.lad 9 (KN LA) 255).X1 * (Ed.lad 9 (KN LB) 255).Z1 = (Ed.lad 9 (KN LB) 255).X1 * (Ed.lad 9 (KN LA) 255).Z1 := by decide +kernel
  exact hne (quot_ne (Fp.mul_inv z1) (Fp.mul_inv z2) h)
theorem nonzero {a b : List UInt8} (ha : a.length = 32) (hb : b.length = 32) : multB a (multB b nineB) ≠ List.replicate 32 0 := by
  intro e
  have e0 : List.replicate 32 (0 : UInt8) = leBytes (0 : Fp).val 32 := by decide +kernel
  rw [e0] at e
  exact secret_ne ha hb (Fin.ext (leBytes_inj (lt_all _) (lt_all _) e))
end Go.Proofs.YtilccncddbgpbaaDoor

namespace Go.Proofs.YtilccncddbgpbaaDoor
open Go.RowKit

theorem LA_len : LA.length = 32 := rfl
theorem LB_len : LB.length = 32 := rfl
theorem bldA (w : World) : (Instr.build tB #[(8, .int .u8 7)]).run Tryd.prog w = .ok (.agg (bvals LA).toArray) w := run_build w tB #[(8, .int .u8 7)] _ (by kernel_rfl)
theorem bldB (w : World) : (Instr.build tB #[(20, .int .u8 9)]).run Tryd.prog w = .ok (.agg (bvals LB).toArray) w := run_build w tB #[(20, .int .u8 9)] _ (by kernel_rfl)
def ZL : List UInt8 := List.replicate 32 0
theorem ZL_len : ZL.length = 32 := rfl
theorem bldZ (w : World) : (Instr.build tB #[]).run Tryd.prog w = .ok (.agg (bvals ZL).toArray) w := run_build w tB #[] _ (by kernel_rfl)
theorem new2B {ops : Array Oper} {rest : List Oper} {o1 o2 s1 s2 : Oper} {a a2 a3 : Act} {w : World} {Q : Exit → Act → World → Prop} {d1 d2 : Nat} {y1 y2 : Operand} {la lb : List UInt8}
    (h1 : o1.op = .alloc tB) (g1 : o1.guard = none) (e1 : o1.dst = some d1) (h2 : o2.op = .alloc tB) (g2 : o2.guard = none) (e2 : o2.dst = some d2)
    (hs1 : s1.op = .store tB (.tmp d1) y1) (gs1 : s1.guard = none) (l1 : la.length = 32) (hs2 : s2.op = .store tB (.tmp d2) y2) (gs2 : s2.guard = none) (l2 : lb.length = 32)
    (ea : (a.put (some d1) (.pointer (some ⟨w.heap.size, 0, none⟩))).put (some d2) (.pointer (some ⟨w.heap.size + 1, 0, none⟩)) = a2) (hx1 : a2.eval (.tmp d1) = .pointer (some ⟨w.heap.size, 0, none⟩)) (hy1 : a2.eval y1 = .agg (bvals la).toArray)
    (eb : a2.put s1.dst undef = a3) (hx2 : a3.eval (.tmp d2) = .pointer (some ⟨w.heap.size + 1, 0, none⟩)) (hy2 : a3.eval y2 = .agg (bvals lb).toArray)
    (h : ∀ w', Blk w' w.heap.size tB (bvals la) → Blk w' (w.heap.size + 1) tB (bvals lb) → Below w.heap.size w w' → wpList Tryd.prog ops Q rest (a3.put s2.dst undef) w') : wpList Tryd.prog ops Q (o1 :: o2 :: s1 :: s2 :: rest) a w := by
  have Q1 : Blk ((w.alloc (.cells zb.toArray tB)).alloc (.cells zb.toArray tB)) w.heap.size tB zb := (Blk.new w tB zb).alloc _
  have Q2 : Blk ((w.alloc (.cells zb.toArray tB)).alloc (.cells zb.toArray tB)) (w.heap.size + 1) tB zb := Blk.new2 _ _ _ zb
  refine alloc_ar h1 g1 e1 rfl ?_
  refine alloc_ar h2 g2 e2 (b := w.heap.size + 1) (by simp) ?_
  rw [ea]
  refine store_ar Q1 rfl l1 gs1 hs1 hx1 hy1 ?_
  rw [eb]
  refine store_ar (Q2.farRow (by omega) _) rfl l2 gs2 hs2 hx2 hy2 ?_
  exact h _ ((Q1.setRow _).farRow (by omega) _) ((Q2.farRow (by omega) _).setRow _) (below_row (below_row (below2 _ _ _) _ _ (by omega)) _ _ (by omega))
theorem ne_run (w : World) (l m : List UInt8) (hl : l.length = 32) (hm : m.length = 32) (h : l ≠ m) : (Op.equalIn 10000 tB (.agg (bvals l).toArray) (.agg (bvals m).toArray)).run Tryd.prog w = .ok false w := (eq32 w l m hl hm).trans (by rw [decide_eq_false h])
theorem run_bldZ {a : Act} {o : Oper} (ho : o.op = .build tB #[]) (w : World) : (execOp a.eval o).run Tryd.prog w = .ok (.value (.agg (bvals ZL).toArray)) w := by
  have h := bldZ w
  unfold execOp
  simp only [ho]
  simp [h]
theorem noGuard : Tryd.prog.eqGuardType Tryd.prog.depth tB = false := by kernel_rfl
theorem run_eqA {a : Act} {o : Oper} {x y : Operand} {l m : List UInt8} {b : Bool} {t2 : TypeId} {w : World} (ho : o.op = .binOp .eql tB x y t2) (hx : a.eval x = .agg (bvals l).toArray) (hy : a.eval y = .agg (bvals m).toArray)
    (h : (Op.equalIn 10000 tB (.agg (bvals l).toArray) (.agg (bvals m).toArray)).run Tryd.prog w = .ok b w) : (execOp a.eval o).run Tryd.prog w = .ok (.value (.bool b)) w := by
  unfold execOp
  simp only [ho, hx, hy, Sem.run_bind, run_eqGuard_agg _ _ _ _ _ _ _ noGuard, run_eql_struct, h, Result.andThen_ok, Sem.run_pure]
theorem run_neA {a : Act} {o : Oper} {x y : Operand} {l m : List UInt8} {b : Bool} {t2 : TypeId} {w : World} (ho : o.op = .binOp .neq tB x y t2) (hx : a.eval x = .agg (bvals l).toArray) (hy : a.eval y = .agg (bvals m).toArray)
    (h : (Op.equalIn 10000 tB (.agg (bvals l).toArray) (.agg (bvals m).toArray)).run Tryd.prog w = .ok b w) : (execOp a.eval o).run Tryd.prog w = .ok (.value (.bool (!b))) w := by
  unfold execOp
  simp only [ho, hx, hy, Sem.run_bind, run_eqGuard_agg _ _ _ _ _ _ _ noGuard, run_neq_struct, h, Result.andThen_ok, Sem.run_pure]
theorem eq_step {ops : Array Oper} {rest : List Oper} {o : Oper} {a : Act} {w : World} {Q : Exit → Act → World → Prop} {x y : Operand} {l m : List UInt8} {b : Bool} {t2 : TypeId} (h : (Op.equalIn 10000 tB (.agg (bvals l).toArray) (.agg (bvals m).toArray)).run Tryd.prog w = .ok b w)
    (hg : Region.wanted o (yielded ops a.tmps) = true) (ho : o.op = .binOp .eql tB x y t2) (hx : a.eval x = .agg (bvals l).toArray) (hy : a.eval y = .agg (bvals m).toArray) (hr : wpList Tryd.prog ops Q rest (a.put o.dst (.bool b)) w) : wpList Tryd.prog ops Q (o :: rest) a w := by
  unfold wpList
  rw [if_pos hg]
  refine .inl ?_
  unfold Oper.wp
  rw [run_eqA ho hx hy h]
  exact hr
end Go.Proofs.YtilccncddbgpbaaDoor
