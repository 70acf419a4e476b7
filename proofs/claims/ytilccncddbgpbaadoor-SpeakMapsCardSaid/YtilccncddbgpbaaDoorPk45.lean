/-
edsign: the curve.
-/
import Derived.Test.YtilccncddbgpbaaDoorPk44
namespace Go.Proofs.YtilccncddbgpbaaDoor
open Go.RowKit
namespace Eds
theorem blk_cells {b : Nat} {t : TypeId} : ∀ (vs old p q : List Value) (w : World), old.length = vs.length → Blk w b t (p ++ (old ++ q)) → Blk (w.setCells b p.length vs) b t (p ++ (vs ++ q))
  | [], [], _, _, _, _, h => h
  | v :: r, u :: s, p, q, w, hl, h => by
    have h1 := h.set p.length v
    have e : (p ++ (u :: s ++ q)).set p.length v = (p ++ [v]) ++ (s ++ q) := by simp
    rw [e] at h1
    have h2 := blk_cells r s (p ++ [v]) q _ (by simpa using hl) h1
    rw [List.length_append] at h2
    show Blk ((w.setCell ⟨b, p.length, none⟩ v).setCells b (p.length + 1) r) b t (p ++ (v :: r ++ q))
    simpa using h2
theorem cellsFar {b c : Nat} {t : TypeId} {cs : List Value} (hne : b ≠ c) : ∀ (vs : List Value) (o : Nat) (w : World), Blk w b t cs → Blk (w.setCells c o vs) b t cs
  | [], _, _, h => h
  | v :: r, o, _w, h => cellsFar hne r (o + 1) _ (h.far hne o v)
theorem belowCells {B c : Nat} {w0 : World} (hc : B ≤ c) : ∀ (vs : List Value) (o : Nat) (w : World), Below B w0 w → Below B w0 (w.setCells c o vs)
  | [], _, _, h => h
  | v :: r, o, _w, h => belowCells hc r (o + 1) _ (below_set' h c o v hc)
/-- a store into the middle of a block -/
theorem store_em {ops : Array Oper} {rest : List Oper} {o : Oper} {a : Act} {w : World} {Q : Exit → Act → World → Prop} {b k n : Nat} {t ty : TypeId} {x y : Operand} {p old l q : List Nat} (hb : Blk w b t (uvals (p ++ (old ++ q)))) (hk : p.length = k) (hold : old.length = n) (hl : l.length = n)
    (hsz : (Tryd.prog.info? ty).map (·.size) = some n) (hgd : o.guard = none) (ho : o.op = .store ty x y) (hx : a.eval x = .pointer (some ⟨b, k, none⟩)) (hy : a.eval y = .agg (uvals l).toArray)
    (h : wpList Tryd.prog ops Q rest (a.put o.dst undef) (w.setCells b k (uvals l))) : wpList Tryd.prog ops Q (o :: rest) a w := by
  refine wpList_store_mid hgd ty x y ho b k (uvals l).toArray hx hy (fun j hj => ?_) (by rw [hsz]; simp [uvals_len, hl]) (all_oneCell_toArray (uvals_one l)) h
  have hj' : j < l.length := by simpa [uvals_len] using hj
  have hlt : k + j < (uvals (p ++ (old ++ q))).length := by
    simp only [uvals_len, List.length_append]
    omega
  exact ⟨by rw [hb.cell (k + j) _ (List.getElem?_eq_getElem hlt)]; rfl, hb.free _⟩
theorem blk_put {b k : Nat} {t : TypeId} {p old l q : List Nat} {w : World} (hb : Blk w b t (uvals (p ++ (old ++ q)))) (hk : p.length = k) (hl : old.length = l.length) : Blk (w.setCells b k (uvals l)) b t (uvals (p ++ (l ++ q))) := by
  rw [uvals_append, uvals_append] at hb ⊢
  have := blk_cells (uvals l) (uvals old) (uvals p) (uvals q) w (by rw [uvals_len, uvals_len, hl]) hb
  rwa [uvals_len, hk] at this
theorem run_bldC (l : List Nat) (hl : l.length = 5) (w : World) : (Instr.build tC #[(0, .agg (uvals l).toArray)]).run Tryd.prog w = .ok (.agg (uvals (l ++ (zero5 ++ zero20))).toArray) w := by
  obtain ⟨a, b, c, d, e, rfl⟩ := five l hl
  exact run_build w tC _ _ (by kernel_rfl)
theorem bldC {ops : Array Oper} {rest : List Oper} {o : Oper} {a : Act} {w : World} {Q : Exit → Act → World → Prop} {x : Operand} {l : List Nat} (hl : l.length = 5) (hg : o.guard = none) (ho : o.op = .build tC #[(0, x)]) (hx : a.eval x = .agg (uvals l).toArray)
    (h : wpList Tryd.prog ops Q rest (a.put o.dst (.agg (uvals (l ++ (zero5 ++ zero20))).toArray)) w) : wpList Tryd.prog ops Q (o :: rest) a w :=
  wpList_plain hg fun K hK => by
    have hb := run_bldC l hl w
    unfold Oper.wp execOp
    simp only [ho]
    simp [hx, hb, Oper.upon]
    exact hK _ _ h
theorem rt_base : (rt (Ed.by' * Ed.by' - 1) (Ed.d * (Ed.by' * Ed.by') + 1)) = (Ed.bx, true) := by
  rw [Ed.across Ed.base_on, Ed.base_even]
set_option maxHeartbeats 4000000 in
set_option maxRecDepth 100000 in
theorem begin_ok (w : World) : Calls Tryd.prog 19 #[] w fun e w' => ∃ b lb, e = .returned (.pointer (some ⟨b, 0, none⟩)) ∧ CvE w' b lb ∧ PtV lb Ed.B ∧ Below w.heap.size w w' := by
  obtain ⟨l1, L1, C1⟩ := qSmall 121665 (by decide)
  obtain ⟨l2, L2, C2⟩ := qNeg L1
  obtain ⟨l3, L3, C3⟩ := qSmall 121666 (by decide)
  obtain ⟨l4, L4, C4⟩ := qInvert L3
  obtain ⟨ld, Ld, C5⟩ := qMul L2 L4
  rw [Ed.d_is] at Ld
  obtain ⟨lt, Lt, C6⟩ := qAdd Ld Ld
  obtain ⟨l7, L7, C7⟩ := qSmall 4 (by decide)
  obtain ⟨l8, L8, C8⟩ := qSmall 5 (by decide)
  obtain ⟨l9, L9, C9⟩ := qInvert L8
  obtain ⟨ly, Ly, C10⟩ := qMul L7 L9
  rw [Ed.base_y] at Ly
  clear L1 L2 L3 L4 L7 L8 L9
  go_enter Tryd.func19, Tryd.ntmps19
  go_wp2_with fail
  refine (C1 _).mono ?_
  rintro e w1 ⟨rfl, hb⟩
  have BW : Below w.heap.size w w1 := hb
  clear hb
  go_wp2_with fail
  refine (C2 _).mono ?_
  rintro e w2 ⟨rfl, hb⟩
  replace BW := BW.trans (hb.mono BW.size)
  clear hb
  go_wp2_with fail
  refine (C3 _).mono ?_
  rintro e w3 ⟨rfl, hb⟩
  replace BW := BW.trans (hb.mono BW.size)
  clear hb
  go_wp2_with fail
  refine (C4 _).mono ?_
  rintro e w4 ⟨rfl, hb⟩
  replace BW := BW.trans (hb.mono BW.size)
  clear hb
  go_wp2_with fail
  refine (C5 _).mono ?_
  rintro e w5 ⟨rfl, hb⟩
  replace BW := BW.trans (hb.mono BW.size)
  clear hb
  go_upto_region 2 with (refine bldC Ld.len rfl rfl rfl ?_)
  refine wp_gen (fun wx => Blk wx w5.heap.size tC (uvals (ld ++ (zero5 ++ zero20))) ∧ Below w.heap.size w wx) ⟨Blk.new w5 _ _, BW.alloc BW.size _⟩ ?_
  have hcb : w.heap.size ≤ w5.heap.size := BW.size
  clear BW
  rintro w6 ⟨OC, BW⟩
  generalize w5.heap.size = b at *
  have Dr : Below w6.heap.size w6 w6.drew := below_drewN (Below.refl _ _) 1
  have MC := OC.below Dr OC.lt
  (refine wp_region_quiet_tail (C := fun w' => Below w6.drew.heap.size w6.drew w') 10 (by kernel_rfl) (by kernel_rfl) (Below.refl _ _) ?_; simp only [List.take_succ_cons, List.take_zero, List.drop_succ_cons, List.drop_zero])
  ((with_reducible refine wpQuiet_step (fun K hK => ?_)); refine quiet_plainG (.pointer (some ⟨b, 0, none⟩)) (by first | rfl | simp [Region.wanted, yielded]) (fun w' hw' => by go_simp) ?_; go_simp; (with_reducible apply hK); clear hK K)
  ((with_reducible refine wpQuiet_step (fun K hK => ?_)); refine quiet_plainG (.pointer (some ⟨b, 0, none⟩)) (by first | rfl | simp [Region.wanted, yielded]) (fun w' hw' => by go_simp) ?_; go_simp; (with_reducible apply hK); clear hK K)
  ((with_reducible refine wpQuiet_step (fun K hK => ?_)); refine quiet_plainG (.pointer (some ⟨b, 0, none⟩)) (by first | rfl | simp [Region.wanted, yielded]) (fun w' hw' => by go_simp) ?_; go_simp; (with_reducible apply hK); clear hK K)
  ((with_reducible refine wpQuiet_step (fun K hK => ?_)); refine quiet_plainG (.pointer (some ⟨b, 0, none⟩)) (by first | rfl | simp [Region.wanted, yielded]) (fun w' hw' => by go_simp) ?_; go_simp; (with_reducible apply hK); clear hK K)
  ((with_reducible refine wpQuiet_step (fun K hK => ?_)); refine quiet_loadM (fun w' hw' => rg0 (MC.below hw' MC.lt)) Ld.len (by first | rfl | simp [Region.wanted, yielded]) rfl (by go_simp) ?_; go_simp; (with_reducible apply hK); clear hK K)
  ((with_reducible refine wpQuiet_step (fun K hK => ?_)); refine quiet_plainG (.pointer (some ⟨b, 0, none⟩)) (by first | rfl | simp [Region.wanted, yielded]) (fun w' hw' => by go_simp) ?_; go_simp; (with_reducible apply hK); clear hK K)
  ((with_reducible refine wpQuiet_step (fun K hK => ?_)); refine quiet_plainG (.pointer (some ⟨b, 0, none⟩)) (by first | rfl | simp [Region.wanted, yielded]) (fun w' hw' => by go_simp) ?_; go_simp; (with_reducible apply hK); clear hK K)
  ((with_reducible refine wpQuiet_step (fun K hK => ?_)); refine quiet_plainG (.pointer (some ⟨b, 0, none⟩)) (by first | rfl | simp [Region.wanted, yielded]) (fun w' hw' => by go_simp) ?_; go_simp; (with_reducible apply hK); clear hK K)
  ((with_reducible refine wpQuiet_step (fun K hK => ?_)); refine quiet_loadM (fun w' hw' => rg0 (MC.below hw' MC.lt)) Ld.len (by first | rfl | simp [Region.wanted, yielded]) rfl (by go_simp) ?_; go_simp; (with_reducible apply hK); clear hK K)
  ((with_reducible refine wpQuiet_step (fun K hK => ?_)); refine quiet_callG (.agg (uvals (lt)).toArray) 9 #[.agg (uvals ld).toArray, .agg (uvals ld).toArray] (by first | rfl | simp [Region.wanted, yielded]) (fun w' => by go_simp) (fun w' hw' => (C6 w').mono (by rintro e w'' ⟨rfl, hb⟩; exact ⟨rfl, hw'.trans (hb.mono hw'.size)⟩)) ?_; go_simp; (with_reducible apply hK); clear hK K)
  refine wpQuiet_nil ?_
  intro w7 hw7
  have HB := Dr.trans (hw7.mono Dr.size)
  replace OC := OC.below HB OC.lt
  replace BW := BW.trans (HB.mono BW.size)
  clear Dr MC hw7 HB
  go_simp
  go_upto_region 3 with (refine store_em (p := ld) (old := zero5) (l := lt) (q := zero20) (n := 5) OC Ld.len rfl Lt.len elem_size rfl rfl rfl rfl ?_)
  refine wp_gen (fun wx => Blk wx b tC (uvals (ld ++ (lt ++ zero20))) ∧ Below w.heap.size w wx) ⟨blk_put OC Ld.len Lt.len.symm, belowCells hcb _ _ _ BW⟩ ?_
  clear OC BW
  rintro w8 ⟨OC, BW⟩
  go_wp2_with fail
  refine (C7 _).mono ?_
  rintro e w1 ⟨rfl, hb⟩
  replace OC := OC.below hb OC.lt
  replace BW := BW.trans (hb.mono BW.size)
  clear hb
  go_wp2_with fail
  refine (C8 _).mono ?_
  rintro e w2 ⟨rfl, hb⟩
  replace OC := OC.below hb OC.lt
  replace BW := BW.trans (hb.mono BW.size)
  clear hb
  go_wp2_with fail
  refine (C9 _).mono ?_
  rintro e w3 ⟨rfl, hb⟩
  replace OC := OC.below hb OC.lt
  replace BW := BW.trans (hb.mono BW.size)
  clear hb
  go_wp2_with fail
  refine (C10 _).mono ?_
  rintro e w4 ⟨rfl, hb⟩
  replace OC := OC.below hb OC.lt
  replace BW := BW.trans (hb.mono BW.size)
  clear hb
  go_upto_region 4 with (refine new1 rfl rfl rfl rfl rfl Ly.len (by go_simp) (by go_simp) (fun w9 R => ?_))
  have hb := R.2
  have O2 := R.1
  replace OC := OC.below hb OC.lt
  replace BW := BW.trans (hb.mono BW.size)
  clear hb R
  generalize w4.heap.size = c2 at *
  go_simp
  have CC : CvE w9 b zero20 := ⟨⟨_, _, OC, Ld, Lt, rfl⟩⟩
  go_wp2_with (first | refine load_el2 O2 Ly.len rfl rfl rfl ?_)
  refine (across_ok b _ _ _ ly _ w9 CC Ly).mono ?_
  rintro e wa ⟨lx, rfl, Lx, hb⟩
  rw [rt_base] at Lx ⊢
  replace Lx : Lm lx Ed.bx.val := Lx
  replace OC := OC.below hb OC.lt
  replace O2 := O2.below hb O2.lt
  replace BW := BW.trans (hb.mono BW.size)
  clear hb CC
  go_upto_region 5 with (refine new1 rfl rfl rfl rfl rfl Lx.len (by go_simp) (by go_simp) (fun wb R => ?_))
  have hb := R.2
  have O3 := R.1
  replace OC := OC.below hb OC.lt
  replace O2 := O2.below hb O2.lt
  replace BW := BW.trans (hb.mono BW.size)
  clear hb R
  generalize wa.heap.size = c3 at *
  go_simp
  go_wp2_with (first | refine load_el2 O3 Lx.len rfl rfl rfl ?_ | refine load_el2 O2 Ly.len rfl rfl rfl ?_)
  refine (flat_ok lx ly Ed.bx Ed.by' wb Lx Ly).mono ?_
  rintro e wc ⟨lb, rfl, HB, hb⟩
  replace OC := OC.below hb OC.lt
  replace BW := BW.trans (hb.mono BW.size)
  clear hb O2 O3
  have LB := HB.len
  have O1 : Blk wc b tC (uvals ((ld ++ lt) ++ (zero20 ++ []))) := by rw [List.append_nil, List.append_assoc]; exact OC
  have LDT : (ld ++ lt).length = 10 := by rw [List.length_append, Ld.len, Lt.len]
  go_upto_region 6 with (refine store_em (p := ld ++ lt) (old := zero20) (l := lb) (q := []) (n := 20) O1 LDT rfl LB q_size rfl rfl rfl rfl ?_)
  have O9 := blk_put (l := lb) O1 LDT LB.symm
  rw [List.append_nil, List.append_assoc] at O9
  refine wp_gen (fun wx => Blk wx b tC (uvals (ld ++ (lt ++ lb))) ∧ Below w.heap.size w wx) ⟨O9, belowCells hcb _ _ _ BW⟩ ?_
  clear OC BW O9 O1
  rintro wd ⟨OC, BW⟩
  go_wp2_with fail
  go_ret
  exact ⟨b, lb, rfl, ⟨⟨_, _, OC, Ld, Lt, LB⟩⟩, ⟨_, _, _, _, HB, Ed.ex_flat rfl rfl⟩, BW⟩
end Eds
end Go.Proofs.YtilccncddbgpbaaDoor
