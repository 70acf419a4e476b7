/-
edsign: points in memory (four elements, twenty cells), the curve's block; zero, flat, across.
-/
import Derived.Test.YtkhdhiddhnmdkaaGreatDoorPk22
import Derived.Test.YtkhdhiddhnmdkaaGreatDoorPk08
import Derived.Test.YtkhdhiddhnmdkaaGreatDoorPk23
namespace Go.Proofs.YtkhdhiddhnmdkaaGreatDoor
open Go.RowKit
namespace Eds
abbrev tQ : TypeId := 72
abbrev tC : TypeId := 78
theorem q_size : (Tryz.prog.info? tQ).map (·.size) = some 20 := by kernel_rfl
theorem c_size : (Tryz.prog.info? tC).map (·.size) = some 30 := by kernel_rfl
def zero20 : List Nat := [0, 0, 0, 0, 0, 0, 0, 0, 0, 0, 0, 0, 0, 0, 0, 0, 0, 0, 0, 0]
theorem run_alloc_q (w : World) : (Instr.alloc tQ true (.tuple #[])).run Tryz.prog w = .ok (.pointer (some ⟨w.heap.size, 0, none⟩)) (w.alloc (.cells (uvals zero20).toArray tQ)) := by kernel_rfl
/-- four elements in a row -/
structure Co (l : List Nat) (X Y Z T : Fp) : Prop where
  parts : ∃ lx ly lz lt, l = lx ++ (ly ++ (lz ++ lt)) ∧ Lm lx X.val ∧ Lm ly Y.val ∧ Lm lz Z.val ∧ Lm lt T.val
theorem Co.len {l : List Nat} {X Y Z T : Fp} (h : Co l X Y Z T) : l.length = 20 := by
  obtain ⟨⟨lx, ly, lz, lt, rfl, a, b, c, d⟩⟩ := h
  simp only [List.length_append, a.len, b.len, c.len, d.len]
theorem co {lx ly lz lt : List Nat} {X Y Z T : Fp} (a : Lm lx X.val) (b : Lm ly Y.val) (c : Lm lz Z.val) (d : Lm lt T.val) : Co (lx ++ (ly ++ (lz ++ lt))) X Y Z T := ⟨⟨_, _, _, _, rfl, a, b, c, d⟩⟩
theorem bld4 (a b c e : List Nat) (ha : a.length = 5) (hb : b.length = 5) (hc : c.length = 5) (he : e.length = 5) (w : World) :
    (Instr.build tQ #[(0, .agg (uvals a).toArray), (1, .agg (uvals b).toArray), (2, .agg (uvals c).toArray), (3, .agg (uvals e).toArray)]).run Tryz.prog w = .ok (.agg (uvals (a ++ (b ++ (c ++ e)))).toArray) w := by
  obtain ⟨a1, a2, a3, a4, a5, rfl⟩ := five a ha
  obtain ⟨b1, b2, b3, b4, b5, rfl⟩ := five b hb
  obtain ⟨c1, c2, c3, c4, c5, rfl⟩ := five c hc
  obtain ⟨e1, e2, e3, e4, e5, rfl⟩ := five e he
  exact run_build w tQ _ _ (by kernel_rfl)
theorem run_bld4 {a : Act} {o : Oper} {x y z t : Operand} {lx ly lz lt : List Nat} (ho : o.op = .build tQ #[(0, x), (1, y), (2, z), (3, t)])
    (hx : a.eval x = .agg (uvals lx).toArray) (hy : a.eval y = .agg (uvals ly).toArray) (hz : a.eval z = .agg (uvals lz).toArray) (ht : a.eval t = .agg (uvals lt).toArray)
    (Lx : lx.length = 5) (Ly : ly.length = 5) (Lz : lz.length = 5) (Lt : lt.length = 5) (w : World) :
    (execOp a.eval o).run Tryz.prog w = .ok (.value (.agg (uvals (lx ++ (ly ++ (lz ++ lt)))).toArray)) w := by
  have h := bld4 lx ly lz lt Lx Ly Lz Lt w
  unfold execOp
  simp only [ho]
  simp [hx, hy, hz, ht, h]
theorem bld_pt {ops : Array Oper} {rest : List Oper} {o : Oper} {a : Act} {w : World} {Q : Exit → Act → World → Prop} {x y z t : Operand} {lx ly lz lt : List Nat}
    (Lx : lx.length = 5) (Ly : ly.length = 5) (Lz : lz.length = 5) (Lt : lt.length = 5) (hg : o.guard = none) (ho : o.op = .build tQ #[(0, x), (1, y), (2, z), (3, t)])
    (hx : a.eval x = .agg (uvals lx).toArray) (hy : a.eval y = .agg (uvals ly).toArray) (hz : a.eval z = .agg (uvals lz).toArray) (ht : a.eval t = .agg (uvals lt).toArray)
    (h : wpList Tryz.prog ops Q rest (a.put o.dst (.agg (uvals (lx ++ (ly ++ (lz ++ lt)))).toArray)) w) : wpList Tryz.prog ops Q (o :: rest) a w :=
  wpList_plain hg fun K hK => by
    unfold Oper.wp
    rw [run_bld4 ho hx hy hz ht Lx Ly Lz Lt w]
    exact hK _ _ h
theorem rg {w : World} {b : Nat} {t : TypeId} {p l q : List Nat} {k : Nat} (h : Blk w b t (uvals (p ++ (l ++ q)))) (hk : p.length = k) : w.rangeAt b k (uvals l) := fun j v hv => by
  refine h.cell (k + j) v ?_
  have hj : j < (uvals l).length := (List.getElem?_eq_some_iff.1 hv).1
  rw [uvals_append, uvals_append, List.getElem?_append_right (by rw [uvals_len]; omega), uvals_len, hk, Nat.add_sub_cancel_left, List.getElem?_append_left hj]
  exact hv
theorem rg0 {w : World} {b : Nat} {t : TypeId} {l q : List Nat} (h : Blk w b t (uvals (l ++ q))) : w.rangeAt b 0 (uvals l) := rg (p := []) h rfl
theorem rgE {w : World} {b : Nat} {t : TypeId} {p l : List Nat} {k : Nat} (h : Blk w b t (uvals (p ++ l))) (hk : p.length = k) : w.rangeAt b k (uvals l) := rg (q := []) (by rw [List.append_nil]; exact h) hk
/-- the curve's block -/
structure Cv (w : World) (b : Nat) (d d2 : Fp) (l : List Nat) : Prop where
  parts : ∃ ld lt, Blk w b tC (uvals (ld ++ (lt ++ l))) ∧ Lm ld d.val ∧ Lm lt d2.val ∧ l.length = 20
theorem Cv.below {w w' : World} {b : Nat} {d d2 : Fp} {l : List Nat} (h : Cv w b d d2 l) (hb : Below w.heap.size w w') : Cv w' b d d2 l := by
  obtain ⟨⟨ld, lt, H, a, c, e⟩⟩ := h
  exact ⟨⟨ld, lt, H.below hb H.lt, a, c, e⟩⟩
theorem store_pt {ops : Array Oper} {rest : List Oper} {o : Oper} {a : Act} {w : World} {Q : Exit → Act → World → Prop} {b : Nat} {x y : Operand} {old l : List Nat} (hb : Blk w b tQ (uvals old)) (hold : old.length = 20) (hl : l.length = 20)
    (hgd : o.guard = none) (ho : o.op = .store tQ x y) (hx : a.eval x = .pointer (some ⟨b, 0, none⟩)) (hy : a.eval y = .agg (uvals l).toArray)
    (h : wpList Tryz.prog ops Q rest (a.put o.dst undef) (w.setRow b (uvals l).toArray)) : wpList Tryz.prog ops Q (o :: rest) a w :=
  store_blk (n := 20) hb q_size (by rw [uvals_len, hl]) (by rw [uvals_len, hold]) (uvals_one l) hgd ho hx hy h
theorem load_qt {ops : Array Oper} {rest : List Oper} {o : Oper} {a : Act} {w : World} {Q : Exit → Act → World → Prop} {b : Nat} {x : Operand} {l : List Nat} (hb : Blk w b tQ (uvals l)) (hl : l.length = 20)
    (hg : Region.wanted o (yielded ops a.tmps) = true) (ho : o.op = .load tQ x) (hx : a.eval x = .pointer (some ⟨b, 0, none⟩)) (h : wpList Tryz.prog ops Q rest (a.put o.dst (.agg (uvals l).toArray)) w) : wpList Tryz.prog ops Q (o :: rest) a w := by
  unfold wpList
  rw [if_pos hg]
  exact .inl (wp_load_row tQ x ho b hx tQ _ (0, 0) _ hb Tryz.underlying72 rfl (by rw [q_size]; simp [uvals_len, hl]) h)
theorem alloc_q {ops : Array Oper} {rest : List Oper} {o : Oper} {a : Act} {w : World} {Q : Exit → Act → World → Prop} {d b : Nat} (ha : o.op = .alloc tQ) (hg : o.guard = none) (hd : o.dst = some d) (hb : b = w.heap.size)
    (h : wpList Tryz.prog ops Q rest (a.put (some d) (.pointer (some ⟨b, 0, none⟩))) (w.alloc (.cells (uvals zero20).toArray tQ))) : wpList Tryz.prog ops Q (o :: rest) a w := by
  refine wpList_plain hg fun K1 hK1 => ?_
  unfold Oper.wp execOp
  simp only [ha, Sem.run_bind, run_alloc_q w, Result.andThen_ok, Sem.run_pure, Oper.upon]
  refine hK1 _ _ ?_
  rw [hd, ← hb]
  exact h
/-- a new variable of a point -/
theorem newQ {ops : Array Oper} {rest : List Oper} {o1 s1 : Oper} {a : Act} {w : World} {Q : Exit → Act → World → Prop} {d1 : Nat} {y1 : Operand} {la : List Nat}
    (h1 : o1.op = .alloc tQ) (g1 : o1.guard = none) (e1 : o1.dst = some d1) (hs1 : s1.op = .store tQ (.tmp d1) y1) (gs1 : s1.guard = none) (l1 : la.length = 20)
    (hy1 : (a.put (some d1) (.pointer (some ⟨w.heap.size, 0, none⟩))).eval y1 = .agg (uvals la).toArray)
    (hx1 : (a.put (some d1) (.pointer (some ⟨w.heap.size, 0, none⟩))).eval (.tmp d1) = .pointer (some ⟨w.heap.size, 0, none⟩))
    (h : ∀ w', Blk w' w.heap.size tQ (uvals la) → Below w.heap.size w w' → wpList Tryz.prog ops Q rest ((a.put (some d1) (.pointer (some ⟨w.heap.size, 0, none⟩))).put s1.dst undef) w') : wpList Tryz.prog ops Q (o1 :: s1 :: rest) a w := by
  have Q1 : Blk (w.alloc (.cells (uvals zero20).toArray tQ)) w.heap.size tQ (uvals zero20) := Blk.new w tQ _
  refine alloc_q h1 g1 e1 rfl ?_
  refine store_pt Q1 rfl l1 gs1 hs1 hx1 hy1 ?_
  exact h _ (Q1.setRow _) (below_row (below1 _ _) _ _ (Nat.le_refl _))
theorem lm0 : Lm zero5 (0 : Fp).val := Lm.smallN 0 (by decide)
theorem bldZ {ops : Array Oper} {rest : List Oper} {o : Oper} {a : Act} {w : World} {Q : Exit → Act → World → Prop} (hg : o.guard = none) (ho : o.op = .build tE #[])
    (h : wpList Tryz.prog ops Q rest (a.put o.dst (.agg (uvals zero5).toArray)) w) : wpList Tryz.prog ops Q (o :: rest) a w :=
  wpList_plain hg fun K hK => by
    have hb : (Instr.build tE #[]).run Tryz.prog w = .ok (.agg (uvals zero5).toArray) w := run_build w tE #[] _ (by kernel_rfl)
    unfold Oper.wp execOp
    simp only [ho]
    simp [hb, Oper.upon]
    exact hK _ _ h
theorem ret_pt {fn : Func} {R : Ending → World → Prop} {a : Act} {w : World} {p : Tmp} {b : Nat} {l : List Nat} (h : fn.results = #[.cell p tQ]) (hb : Blk w b tQ (uvals l)) (hl : l.length = 20)
    (hp : a.tmps.getD p undef = .pointer (some ⟨b, 0, none⟩)) (hdf : a.defers = []) (hR : R (.returned (.agg (uvals l).toArray)) w) : bodyPost Tryz.prog fn R .ret a w :=
  ret_blk h hb Tryz.underlying72 rfl q_size (by rw [uvals_len, hl]) hp hdf hR
set_option maxHeartbeats 2000000 in
set_option maxRecDepth 100000 in
theorem zero_ok (w : World) : Calls Tryz.prog 61 #[] w fun e w' => ∃ l, e = .returned (.agg (uvals l).toArray) ∧ Co l 0 1 1 0 ∧ Below w.heap.size w w' := by
  obtain ⟨l1, L1, C1⟩ := qSmall1
  have Z5 : Hid (zero5.length = 5) := rfl
  have HC := Lib.hid (co lm0 L1 L1 lm0)
  have L5 := Lib.hid L1.len
  have HL := HC.out.len
  clear L1
  go_enter Tryz.func61, Tryz.ntmps61
  go_upto_region 1 with fail
  refine wp_gen (fun wx => Blk wx w.heap.size tQ (uvals zero20) ∧ Below w.heap.size w wx) ⟨Blk.new w _ _, below1 _ _⟩ ?_
  rintro w1 ⟨O, BW⟩
  go_wp2_with (first | refine bldZ rfl rfl ?_ | (go_at_call 37; refine (C1 _).mono ?_; rintro e w2 ⟨rfl, hb⟩; replace O := O.below hb O.lt; replace BW := BW.trans (hb.mono BW.size); clear hb) | refine bld_pt Z5.out L5.out L5.out Z5.out rfl rfl rfl rfl rfl rfl ?_ | refine store_pt O rfl HL rfl rfl rfl rfl ?_)
  exact ret_pt rfl (O.setRow _) HL rfl rfl ⟨_, rfl, HC.out, below_row BW _ _ (Nat.le_refl _)⟩
set_option maxHeartbeats 2000000 in
set_option maxRecDepth 100000 in
theorem flat_ok (lx ly : List Nat) (X Y : Fp) (w : World) (Lx : Lm lx X.val) (Ly : Lm ly Y.val) :
    Calls Tryz.prog 60 #[.agg (uvals lx).toArray, .agg (uvals ly).toArray] w fun e w' => ∃ l, e = .returned (.agg (uvals l).toArray) ∧ Co l X Y 1 (X * Y) ∧ Below w.heap.size w w' := by
  obtain ⟨l1, L1, C1⟩ := qSmall1
  obtain ⟨l2, L2, C2⟩ := qMul Lx Ly
  have HC := co Lx Ly L1 L2
  have HL := HC.len
  go_enter Tryz.func60, Tryz.ntmps60
  go_upto_region 1 with fail
  refine wp_gen (fun wx => Blk wx w.heap.size tE (uvals lx) ∧ Blk wx (w.heap.size + 1) tE (uvals ly) ∧ Blk wx (w.heap.size + 2) tQ (uvals zero20) ∧ Below w.heap.size w wx) ⟨((Blk.new w _ _).alloc _).alloc _, (Blk.new2 _ _ _ _).alloc _, Blk.new3 _ _ _ _ _, below3 _ _ _ _⟩ ?_
  rintro w1 ⟨O2, O3, O4, BW⟩
  have D1 : Below w1.heap.size w1 w1.drew := below_drewN (Below.refl _ _) 1
  have M2 := O2.below D1 O2.lt
  have M3 := O3.below D1 O3.lt
  (refine wp_region_quiet_tail (C := fun w' => Below w1.drew.heap.size w1.drew w') 7 (by kernel_rfl) (by kernel_rfl) (Below.refl _ _) ?_; simp only [List.take_succ_cons, List.take_zero, List.drop_succ_cons, List.drop_zero])
  ((with_reducible refine wpQuiet_step (fun K hK => ?_)); refine quiet_loadE (fun w' hw' => M2.below hw' M2.lt) Lx.len (by first | rfl | simp [Region.wanted, yielded]) rfl (by go_simp) ?_; go_simp; (with_reducible apply hK); clear hK K)
  ((with_reducible refine wpQuiet_step (fun K hK => ?_)); refine quiet_loadE (fun w' hw' => M3.below hw' M3.lt) Ly.len (by first | rfl | simp [Region.wanted, yielded]) rfl (by go_simp) ?_; go_simp; (with_reducible apply hK); clear hK K)
  ((with_reducible refine wpQuiet_step (fun K hK => ?_)); refine quiet_callG (.agg (uvals (l1)).toArray) 37 #[.int .u64 1] (by first | rfl | simp [Region.wanted, yielded]) (fun w' => by go_simp) (fun w' hw' => (C1 w').mono (by rintro e w'' ⟨rfl, hb⟩; exact ⟨rfl, hw'.trans (hb.mono hw'.size)⟩)) ?_; go_simp; (with_reducible apply hK); clear hK K)
  ((with_reducible refine wpQuiet_step (fun K hK => ?_)); refine quiet_loadE (fun w' hw' => M2.below hw' M2.lt) Lx.len (by first | rfl | simp [Region.wanted, yielded]) rfl (by go_simp) ?_; go_simp; (with_reducible apply hK); clear hK K)
  ((with_reducible refine wpQuiet_step (fun K hK => ?_)); refine quiet_loadE (fun w' hw' => M3.below hw' M3.lt) Ly.len (by first | rfl | simp [Region.wanted, yielded]) rfl (by go_simp) ?_; go_simp; (with_reducible apply hK); clear hK K)
  ((with_reducible refine wpQuiet_step (fun K hK => ?_)); refine quiet_callG (.agg (uvals (l2)).toArray) 40 #[.agg (uvals lx).toArray, .agg (uvals ly).toArray] (by first | rfl | simp [Region.wanted, yielded]) (fun w' => by go_simp) (fun w' hw' => (C2 w').mono (by rintro e w'' ⟨rfl, hb⟩; exact ⟨rfl, hw'.trans (hb.mono hw'.size)⟩)) ?_; go_simp; (with_reducible apply hK); clear hK K)
  ((with_reducible refine wpQuiet_step (fun K hK => ?_)); refine quiet_plainG _ (by first | rfl | simp [Region.wanted, yielded]) (fun w' _ => Eds.run_bld4 rfl rfl rfl rfl rfl (Lx.len) (Ly.len) (L1.len) (L2.len) w') ?_; go_simp; (with_reducible apply hK); clear hK K)
  refine wpQuiet_nil ?_
  intro w5 hw5
  have HB := D1.trans (hw5.mono D1.size)
  replace O4 := O4.below HB O4.lt
  replace BW := BW.trans (HB.mono BW.size)
  go_simp
  go_wp2_with (refine store_pt O4 rfl HL rfl rfl rfl rfl ?_)
  exact ret_pt rfl (O4.setRow _) HL rfl rfl ⟨_, rfl, HC, below_row BW _ _ (by omega)⟩
theorem qRoot {a b : List Nat} {u v : Fp} (ha : Lm a u.val) (hb : Lm b v.val) : ∃ l, Lm l (rt u v).1.val ∧ QC 91 #[.agg (uvals a).toArray, .agg (uvals b).toArray] (.tuple #[.agg (uvals l).toArray, .bool (rt u v).2]) := by
  have h := ha.root hb
  refine ⟨_, h.1, fun w => (el_root_ok a b w ha.own hb.own).mono ?_⟩
  rintro e w' ⟨rfl, hb'⟩
  exact ⟨by rw [← h.2]; rfl, hb'⟩
set_option maxHeartbeats 2000000 in
set_option maxRecDepth 100000 in
theorem across_ok (b : Nat) (d d2 : Fp) (lb ly : List Nat) (y : Fp) (w : World) (hc : Cv w b d d2 lb) (Ly : Lm ly y.val) :
    Calls Tryz.prog 59 #[.pointer (some ⟨b, 0, none⟩), .agg (uvals ly).toArray] w fun e w' =>
      ∃ l, e = .returned (.tuple #[.agg (uvals l).toArray, .bool (rt (y * y - 1) (d * (y * y) + 1)).2]) ∧ Lm l (rt (y * y - 1) (d * (y * y) + 1)).1.val ∧ Below w.heap.size w w' := by
  obtain ⟨ld, lt, HC, Ld, Lt, Lb⟩ := hc.parts
  obtain ⟨l1, L1, C1⟩ := qSquare Ly
  obtain ⟨l2, L2, C2⟩ := qSmall1
  obtain ⟨l3, L3, C3⟩ := qSub L1 L2
  obtain ⟨l4, L4, C4⟩ := qMul Ld L1
  obtain ⟨l5, L5, C5⟩ := qAdd L4 L2
  obtain ⟨l6, L6, C6⟩ := qRoot L3 L5
  generalize rt (y * y - 1) (d * (y * y) + 1) = R at *
  go_enter Tryz.func59, Tryz.ntmps59
  go_upto_region 1 with fail
  refine wp_gen (fun wx => Blk wx w.heap.size tE (uvals ly) ∧ Blk wx (w.heap.size + 1) tE (uvals zero5) ∧ Below w.heap.size w wx) ⟨(Blk.new w _ _).alloc _, Blk.new2 _ _ _ _, below2 _ _ _⟩ ?_
  rintro w1 ⟨O3, O4, BW⟩
  go_wp2_with (first | refine load_el2 O3 Ly.len rfl rfl rfl ?_)
  refine (C1 w1).mono ?_
  rintro e w2 ⟨rfl, hb⟩
  replace O4 := O4.below hb O4.lt
  replace BW := BW.trans (hb.mono BW.size)
  clear hb O3
  go_upto_region 2 with (refine new1 rfl rfl rfl rfl rfl L1.len (by go_simp) (by go_simp) (fun w3 R => ?_))
  have O6 := R.1
  replace O4 := O4.below R.2 O4.lt
  have BW3 := BW.trans (R.2.mono BW.size)
  replace HC := HC.below BW3 HC.lt
  clear R BW
  generalize w2.heap.size = c6 at *
  go_simp
  have D1 : Below w3.heap.size w3 w3.drew := below_drewN (Below.refl _ _) 1
  have M6 := O6.below D1 O6.lt
  have MC := HC.below D1 HC.lt
  (refine wp_region_quiet_tail (C := fun w' => Below w3.drew.heap.size w3.drew w') 14 (by kernel_rfl) (by kernel_rfl) (Below.refl _ _) ?_; simp only [List.take_succ_cons, List.take_zero, List.drop_succ_cons, List.drop_zero])
  ((with_reducible refine wpQuiet_step (fun K hK => ?_)); refine quiet_loadE (fun w' hw' => M6.below hw' M6.lt) L1.len (by first | rfl | simp [Region.wanted, yielded]) rfl (by go_simp) ?_; go_simp; (with_reducible apply hK); clear hK K)
  ((with_reducible refine wpQuiet_step (fun K hK => ?_)); refine quiet_callG (.agg (uvals (l2)).toArray) 37 #[.int .u64 1] (by first | rfl | simp [Region.wanted, yielded]) (fun w' => by go_simp) (fun w' hw' => (C2 w').mono (by rintro e w'' ⟨rfl, hb⟩; exact ⟨rfl, hw'.trans (hb.mono hw'.size)⟩)) ?_; go_simp; (with_reducible apply hK); clear hK K)
  ((with_reducible refine wpQuiet_step (fun K hK => ?_)); refine quiet_callG (.agg (uvals (l3)).toArray) 67 #[.agg (uvals l1).toArray, .agg (uvals l2).toArray] (by first | rfl | simp [Region.wanted, yielded]) (fun w' => by go_simp) (fun w' hw' => (C3 w').mono (by rintro e w'' ⟨rfl, hb⟩; exact ⟨rfl, hw'.trans (hb.mono hw'.size)⟩)) ?_; go_simp; (with_reducible apply hK); clear hK K)
  ((with_reducible refine wpQuiet_step (fun K hK => ?_)); refine quiet_plainG (.pointer (some ⟨b, 0, none⟩)) (by first | rfl | simp [Region.wanted, yielded]) (fun w' hw' => by go_simp) ?_; go_simp; (with_reducible apply hK); clear hK K)
  ((with_reducible refine wpQuiet_step (fun K hK => ?_)); refine quiet_plainG (.pointer (some ⟨b, 0, none⟩)) (by first | rfl | simp [Region.wanted, yielded]) (fun w' hw' => by go_simp) ?_; go_simp; (with_reducible apply hK); clear hK K)
  ((with_reducible refine wpQuiet_step (fun K hK => ?_)); refine quiet_plainG (.pointer (some ⟨b, 0, none⟩)) (by first | rfl | simp [Region.wanted, yielded]) (fun w' hw' => by go_simp) ?_; go_simp; (with_reducible apply hK); clear hK K)
  ((with_reducible refine wpQuiet_step (fun K hK => ?_)); refine quiet_loadM (fun w' hw' => rg0 (MC.below hw' MC.lt)) Ld.len (by first | rfl | simp [Region.wanted, yielded]) rfl (by go_simp) ?_; go_simp; (with_reducible apply hK); clear hK K)
  ((with_reducible refine wpQuiet_step (fun K hK => ?_)); refine quiet_loadE (fun w' hw' => M6.below hw' M6.lt) L1.len (by first | rfl | simp [Region.wanted, yielded]) rfl (by go_simp) ?_; go_simp; (with_reducible apply hK); clear hK K)
  ((with_reducible refine wpQuiet_step (fun K hK => ?_)); refine quiet_callG (.agg (uvals (l4)).toArray) 40 #[.agg (uvals ld).toArray, .agg (uvals l1).toArray] (by first | rfl | simp [Region.wanted, yielded]) (fun w' => by go_simp) (fun w' hw' => (C4 w').mono (by rintro e w'' ⟨rfl, hb⟩; exact ⟨rfl, hw'.trans (hb.mono hw'.size)⟩)) ?_; go_simp; (with_reducible apply hK); clear hK K)
  ((with_reducible refine wpQuiet_step (fun K hK => ?_)); refine quiet_callG (.agg (uvals (l2)).toArray) 37 #[.int .u64 1] (by first | rfl | simp [Region.wanted, yielded]) (fun w' => by go_simp) (fun w' hw' => (C2 w').mono (by rintro e w'' ⟨rfl, hb⟩; exact ⟨rfl, hw'.trans (hb.mono hw'.size)⟩)) ?_; go_simp; (with_reducible apply hK); clear hK K)
  ((with_reducible refine wpQuiet_step (fun K hK => ?_)); refine quiet_callG (.agg (uvals (l5)).toArray) 58 #[.agg (uvals l4).toArray, .agg (uvals l2).toArray] (by first | rfl | simp [Region.wanted, yielded]) (fun w' => by go_simp) (fun w' hw' => (C5 w').mono (by rintro e w'' ⟨rfl, hb⟩; exact ⟨rfl, hw'.trans (hb.mono hw'.size)⟩)) ?_; go_simp; (with_reducible apply hK); clear hK K)
  ((with_reducible refine wpQuiet_step (fun K hK => ?_)); refine quiet_callG (.tuple #[.agg (uvals l6).toArray, .bool R.2]) 91 #[.agg (uvals l3).toArray, .agg (uvals l5).toArray] (by first | rfl | simp [Region.wanted, yielded]) (fun w' => by go_simp) (fun w' hw' => (C6 w').mono (by rintro e w'' ⟨rfl, hb⟩; exact ⟨rfl, hw'.trans (hb.mono hw'.size)⟩)) ?_; go_simp; (with_reducible apply hK); clear hK K)
  ((with_reducible refine wpQuiet_step (fun K hK => ?_)); refine quiet_plainG (.agg (uvals l6).toArray) (by first | rfl | simp [Region.wanted, yielded]) (fun w' hw' => by go_simp) ?_; go_simp; (with_reducible apply hK); clear hK K)
  ((with_reducible refine wpQuiet_step (fun K hK => ?_)); refine quiet_plainG (.bool R.2) (by first | rfl | simp [Region.wanted, yielded]) (fun w' hw' => by go_simp) ?_; go_simp; (with_reducible apply hK); clear hK K)
  refine wpQuiet_nil ?_
  intro w5 hw5
  have HB := D1.trans (hw5.mono D1.size)
  replace O4 := O4.below HB O4.lt
  replace BW3 := BW3.trans (HB.mono BW3.size)
  go_simp
  go_wp2_with (refine store_el O4 hz5 (Lib.hid L6.len) rfl rfl rfl rfl ?_)
  exact ret_el2 rfl (O4.setRow _) L6.len rfl rfl rfl ⟨_, rfl, L6, below_row BW3 _ _ (by omega)⟩
end Eds
end Go.Proofs.YtkhdhiddhnmdkaaGreatDoor
