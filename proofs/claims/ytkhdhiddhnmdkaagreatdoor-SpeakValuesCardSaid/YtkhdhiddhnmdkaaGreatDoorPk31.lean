/-
edsign: Sign.
-/
import Derived.Laws.CopyOwn
import Derived.Test.YtkhdhiddhnmdkaaGreatDoorPk30
import Derived.Test.YtkhdhiddhnmdkaaGreatDoorPk28
namespace Go.Proofs.YtkhdhiddhnmdkaaGreatDoor
open Go.RowKit Sha
set_option maxRecDepth 100000
namespace Eds
section
variable (T F : List Int) (l m : List UInt8)
def secK : List UInt8 := kc ((S512 T F l).take 32)
def secP : List UInt8 := (S512 T F l).drop 32
def rL : List UInt8 := redL (S512 T F (secP T F l ++ m))
def RL : List UInt8 := encP (Ed.smul (le8 (rL T F l m)) Ed.B)
def AL : List UInt8 := encP (Ed.smul (le8 (secK T F l)) Ed.B)
def kL : List UInt8 := redL (S512 T F (RL T F l m ++ (AL T F l ++ m)))
def sL : List UInt8 := leBytes ((le8 (kL T F l m) * le8 (secK T F l) + le8 (rL T F l m)) % Lq) 32
/-- a signature's bytes -/
def sgnL : List UInt8 := RL T F l m ++ sL T F l m
theorem sgnL_len : (sgnL T F l m).length = 64 := by
  unfold sgnL RL sL
  rw [List.length_append, encP_len, leBytes_length]
end
theorem run_alloc_b (w : World) : (Instr.alloc tB true (.tuple #[])).run Tryz.prog w = .ok (.pointer (some ⟨w.heap.size, 0, none⟩)) (w.alloc (.cells (bvals (List.replicate 32 0)).toArray tB)) := by kernel_rfl
theorem run_alloc_s (w : World) : (Instr.alloc tS true (.tuple #[])).run Tryz.prog w = .ok (.pointer (some ⟨w.heap.size, 0, none⟩)) (w.alloc (.cells (secV (List.replicate 32 0) ⟨#[]⟩).toArray tS)) := by kernel_rfl
/-- the ground of the crypto's calls -/
structure EdG (T F : List Int) (w : World) : Prop where
  t : ShaT w T F
  g : ShaG w
  o : Ordr w
  h : 6 < w.heap.size
theorem EdG.below {T F : List Int} {w w' : World} (h : EdG T F w) (hb : Below w.heap.size w w') : EdG T F w' :=
  ⟨h.t.below hb, ⟨Nat.lt_of_lt_of_le h.g.1 hb.size, Nat.lt_of_lt_of_le h.g.2 hb.size⟩, h.o.below hb h.h, Nat.lt_of_lt_of_le h.h hb.size⟩
theorem rg_sec {w : World} {c : Nat} {a : List UInt8} {p : ByteArray} (h : Blk w c tS (secV a p)) : w.rangeAt c 0 (bvals a) := fun j v hv => by
  refine h.cell (0 + j) v ?_
  rw [Nat.zero_add]
  unfold secV
  rw [List.getElem?_append_left (List.getElem?_eq_some_iff.1 hv).1]
  exact hv
theorem load_blk64 {ops : Array Oper} {rest : List Oper} {o : Oper} {a : Act} {w : World} {Q : Exit → Act → World → Prop} {b : Nat} {x : Operand} {cs : List Value} (hb : Blk w b 55 cs) (hl : cs.length = 64)
    (hg : Region.wanted o (yielded ops a.tmps) = true) (ho : o.op = .load 55 x) (hx : a.eval x = .pointer (some ⟨b, 0, none⟩)) (h : wpList Tryz.prog ops Q rest (a.put o.dst (.agg cs.toArray)) w) : wpList Tryz.prog ops Q (o :: rest) a w := by
  unfold wpList
  rw [if_pos hg]
  exact .inl (wp_load_row 55 x ho b hx 55 _ (0, 0) _ hb Tryz.underlying55 rfl (by rw [arr64s_size]; simp [hl]) h)
set_option maxHeartbeats 8000000 in
theorem esign_ok {T F : List Int} (l m : List UInt8) (w : World) (hl : l.length = 32) (hm : m.length ≤ 900000) (hG : EdG T F w) :
    Calls Tryz.prog 23 #[.agg (bvals l).toArray, .string (by8 m)] w fun e w' => e = .returned (.agg (bvals (sgnL T F l m)).toArray) ∧ Below w.heap.size w w' := by
  have LS : (S512 T F l).length = 64 := S512_len hG.t _
  have OP := Lib.hid (fun w' (hb : Below w.heap.size w w') => open_ok l w' hl (hG.below hb).t (hG.below hb).g _ rfl)
  have LP : (secP T F l).length = 32 := by unfold secP; rw [List.length_drop]; omega
  have LK : (secK T F l).length = 32 := by unfold secK; rw [kc_len, List.length_take]; omega
  have Lr : (rL T F l m).length = 32 := redL_len _
  have LR : (RL T F l m).length = 32 := encP_len _
  have LA : (AL T F l).length = 32 := encP_len _
  have Lk : (kL T F l m).length = 32 := redL_len _
  have Ls : (sL T F l m).length = 32 := leBytes_length _ _
  have RD1 := Lib.hid (fun bk ty c hc w' (hb : Below w.heap.size w w') hB => ered_ok hG.t hG.g hG.o hG.h bk ty [by8 (secP T F l), by8 m] 2 c rfl (Nat.le_of_ble_eq_true rfl) hc (by rw [catL_cons, catL_one, List.length_append]; omega) hb hB)
  have RD2 := Lib.hid (fun bk ty c hc w' (hb : Below w.heap.size w w') hB => ered_ok hG.t hG.g hG.o hG.h bk ty [by8 (RL T F l m), by8 (AL T F l), by8 m] 3 c rfl (Nat.le_of_ble_eq_true rfl) hc (by rw [catL_cons, catL_cons, catL_one, List.length_append, List.length_append]; omega) hb hB)
  have MA := Lib.hid (fun w' (hb : Below w.heap.size w w') => mulAdd_ok (kL T F l m) (secK T F l) (rL T F l m) w' Lk LK Lr (hG.below hb).o (hG.below hb).h)
  rw [catL_cons, catL_one] at RD1
  rw [catL_cons, catL_cons, catL_one] at RD2
  unfold sgnL
  have MPr := fun b lb lp (w' : World) (hc : CvE w' b lb) (hp : PtV lp Ed.B) => mult_pt b lb lp Ed.B (rL T F l m) w' Lr hc hp
  have MPa := fun b lb lp (w' : World) (hc : CvE w' b lb) (hp : PtV lp Ed.B) => mult_pt b lb lp Ed.B (secK T F l) w' LK hc hp
  have BPr : ∀ lp w', PtV lp (Ed.smul (le8 (rL T F l m)) Ed.B) → Calls Tryz.prog 35 #[.agg (uvals lp).toArray] w' fun e w'' => e = .returned (.agg (bvals (RL T F l m)).toArray) ∧ Below w'.heap.size w' w'' := fun lp w' hp => bytes_p hp w'
  have BPa : ∀ lp w', PtV lp (Ed.smul (le8 (secK T F l)) Ed.B) → Calls Tryz.prog 35 #[.agg (uvals lp).toArray] w' fun e w'' => e = .returned (.agg (bvals (AL T F l)).toArray) ∧ Below w'.heap.size w' w'' := fun lp w' hp => bytes_p hp w'
  have MA' : Hid (∀ w', Below w.heap.size w w' → Calls Tryz.prog 45 #[.agg (bvals (kL T F l m)).toArray, .agg (bvals (secK T F l)).toArray, .agg (bvals (rL T F l m)).toArray] w' fun e w'' => e = .returned (.agg (bvals (sL T F l m)).toArray) ∧ Below w'.heap.size w' w'') := MA
  have OP' : Hid (∀ w', Below w.heap.size w w' → Calls Tryz.prog 34 #[.agg (bvals l).toArray] w' fun e w'' => e = .returned (.agg (secV (secK T F l) (by8 (secP T F l))).toArray) ∧ Below w'.heap.size w' w'') := OP
  have RD1' : Hid (∀ bk ty w', Below w.heap.size w w' → Blk w' bk ty [.string (by8 (secP T F l)), .string (by8 m)] → Calls Tryz.prog 44 #[.slice (some ⟨bk, 0, none⟩) 2 2] w' fun e w'' => e = .returned (.agg (bvals (rL T F l m)).toArray) ∧ Below w'.heap.size w' w'') := Lib.hid fun bk ty w' hb hB => RD1.out bk ty 2 (Nat.le_refl 2) w' hb hB
  have RD2' : Hid (∀ bk ty w', Below w.heap.size w w' → Blk w' bk ty [.string (by8 (RL T F l m)), .string (by8 (AL T F l)), .string (by8 m)] → Calls Tryz.prog 44 #[.slice (some ⟨bk, 0, none⟩) 3 3] w' fun e w'' => e = .returned (.agg (bvals (kL T F l m)).toArray) ∧ Below w'.heap.size w' w'') := Lib.hid fun bk ty w' hb hB => RD2.out bk ty 3 (Nat.le_refl 3) w' hb hB
  clear MA OP RD1 RD2 hG LS hm
  generalize Ed.smul (le8 (rL T F l m)) Ed.B = Pr at *
  generalize Ed.smul (le8 (secK T F l)) Ed.B = Pa at *
  generalize sL T F l m = s at *
  generalize kL T F l m = k at *
  generalize RL T F l m = Rb at *
  generalize AL T F l = Ab at *
  generalize rL T F l m = r at *
  generalize secK T F l = ks at *
  generalize secP T F l = pf at *
  clear LP
  have HX := Lib.hid (And.intro MPr (And.intro MPa (And.intro BPr BPa)))
  clear MPr MPa BPr BPa
  go_enter Tryz.func23, Tryz.ntmps23
  go_upto_region 1 with fail
  refine wp_gen (fun wx => Blk wx w.heap.size tB (bvals l) ∧ Blk wx (w.heap.size + 1) 55 (bvals (List.replicate 64 0)) ∧ Below w.heap.size w wx) ⟨(Blk.new w _ _).alloc _, Blk.new2 _ _ _ (bvals (List.replicate 64 0)), below2 _ _ _⟩ ?_
  rintro w1 ⟨O1, O2, BW⟩
  have M1 : Blk w1.drew w.heap.size tB (bvals l) := O1
  have M2 : Blk w1.drew (w.heap.size + 1) 55 (bvals (List.replicate 64 0)) := O2
  have BD : Below w.heap.size w w1.drew := below_drewN BW 1
  clear O1 O2 BW
  refine Pm.wp_region_late (fun _ => False) 3 [(true, 1), (false, 0), (true, 2)] [(true, 4), (false, 5)] run_alloc_s rfl rfl rfl rfl (by kernel_rfl) (by kernel_rfl) ?_
  (refine Pm.head (i := 1) rfl (fun K hK => ?_); refine Pl.plan_load (fun w' hw' => hw'.blk M1 (fun h => h)) Tryz.underlying48 rfl arr32_size (blen hl) (by first | rfl | simp [Region.wanted, yielded]) rfl (by go_simp) ?_; go_simp; (with_reducible apply hK); clear hK K)
  refine Pm.sole (i := 0) rfl (fun w2 h2 Q hQ => ?_)
  go_wp2_with fail
  refine (begin_ok w2).mono ?_
  rintro e w3 ⟨b, lb, rfl, CV, PB, hb⟩
  go_wp2_with fail
  refine hQ _ _ hb ?_
  clear hQ Q
  go_simp
  have R3 : Rw w1.drew w3 := Rw.trans h2 hb
  clear h2 hb
  (refine Pm.head (i := 2) rfl (fun K hK => ?_); refine Pl.plan_call (.agg (secV ks (by8 pf)).toArray) 34 #[.agg (bvals l).toArray] (by first | rfl | simp [Region.wanted, yielded]) (fun w' => by go_simp) (fun w' hw' => OP'.out w' (BD.trans (hw'.below BD.size (fun k hk e => by omega)))) ?_; go_simp; (with_reducible apply hK); clear hK K)
  refine Pm.nil (fun w6 h6 => ?_)
  intro c6 w7 h7 hc OC
  (refine Pl.plan_head (i := 4) rfl (fun K hK => ?_); refine Pl.plan_plain (.pointer (some ⟨b, 0, none⟩)) (by first | rfl | simp [Region.wanted, yielded]) (fun w' hw' => by go_simp) ?_; go_simp; (with_reducible apply hK); clear hK K)
  refine Pl.plan_sole (i := 5) rfl (fun w8 h8 Q hQ => ?_)
  have OC8 := OC.below h8 OC.lt
  have R8 : Rw w1.drew w8 := Rw.trans (Rw.trans (Rw.trans R3 h6) h7) h8
  refine store_blk (n := 33) (cs := secV ks (by8 pf)) OC8 s_size (secV_len _ _ LK) (secV_len _ _ rfl) (secV_one _ _) rfl rfl (by go_simp) (by go_simp) ?_
  unfold wpList
  have R9 : Rw w1.drew (w8.setRow c6 (secV ks (by8 pf)).toArray) := below_row R8 _ _ hc
  refine hQ _ _ (Keeps.of_below R9) ?_
  clear hQ Q
  go_simp
  refine Pl.plan_nil (fun wz hz => ?_)
  have hbc : b ≠ c6 := fun e => by
    obtain ⟨ld, lt, OB, -⟩ := (((CV.below h6).below h7).below h8).parts
    rw [e] at OB
    exact absurd (blk_type OB OC8) (by decide)
  have hc2 : w.heap.size + 2 ≤ c6 := Nat.le_trans (by have := M2.lt; omega) hc
  have RZ : Rw w1.drew wz := Rw.trans R9 hz
  go_simp
  go_upto_region 2 with fail
  refine wp_gen (fun wx => Blk wx c6 tS (secV ks (by8 pf)) ∧ Blk wx (w.heap.size + 1) 55 (bvals (List.replicate 64 0)) ∧ CvE wx b lb ∧ Below w.heap.size w wx) ⟨(OC8.setRow _).below hz (OC8.setRow _).lt, M2.below RZ M2.lt, ((((CV.below h6).below h7).below h8).farRow hbc _).below hz, BD.trans (RZ.mono BD.size)⟩ ?_
  clear RZ hz R9 OC8 R8 h8 OC h7 h6 R3 CV M1 M2 BD OP' hc w1 w2 w3 w6 w7 w8 wz
  rintro w1 ⟨O6, O2, CV, BW⟩
  have M6 : Blk w1.drew c6 tS (secV ks (by8 pf)) := O6
  have M2 : Blk w1.drew (w.heap.size + 1) 55 (bvals (List.replicate 64 0)) := O2
  have CV1 : CvE w1.drew b lb := CV.below (below_drewN (Below.refl _ _) 1)
  have BD : Below w.heap.size w w1.drew := below_drewN BW 1
  obtain ⟨ld, lt, OC, Ld, Lt, LB⟩ := CV1.parts
  have U9 : (uvals lb).length = 20 := by rw [uvals_len, LB]
  clear O6 O2 CV BW
  refine Pm.wp_region_late (fun _ => False) 9 [(true, 0), (true, 1), (true, 2), (true, 3), (true, 4), (true, 5), (true, 6), (false, 7), (true, 8)] [(false, 10)] run_alloc_b rfl rfl rfl rfl (by kernel_rfl) (by kernel_rfl) ?_
  (refine Pm.head (i := 0) rfl (fun K hK => ?_); refine Pl.plan_plain (.pointer (some ⟨b, 0, none⟩)) (by first | rfl | simp [Region.wanted, yielded]) (fun w' hw' => by go_simp) ?_; go_simp; (with_reducible apply hK); clear hK K)
  (refine Pm.head (i := 1) rfl (fun K hK => ?_); refine Pl.plan_plain (.pointer (some ⟨c6, 0, none⟩)) (by first | rfl | simp [Region.wanted, yielded]) (fun w' hw' => by go_simp) ?_; go_simp; (with_reducible apply hK); clear hK K)
  (refine Pm.head (i := 2) rfl (fun K hK => ?_); refine plan_loadN (b := c6) (off := 0) (cs := bvals ks) (fun w' hw' => rg_sec (hw'.blk M6 (fun h => h))) Tryz.underlying48 rfl (by rw [blen LK]; exact arr32_size) (by first | rfl | simp [Region.wanted, yielded]) rfl (by go_simp) ?_; go_simp; (with_reducible apply hK); clear hK K)
  (refine Pm.head (i := 3) rfl (fun K hK => ?_); refine Pl.plan_plain (.pointer (some ⟨b, 0, none⟩)) (by first | rfl | simp [Region.wanted, yielded]) (fun w' hw' => by go_simp) ?_; go_simp; (with_reducible apply hK); clear hK K)
  (refine Pm.head (i := 4) rfl (fun K hK => ?_); refine Pl.plan_plain (.pointer (some ⟨b, 0, none⟩)) (by first | rfl | simp [Region.wanted, yielded]) (fun w' hw' => by go_simp) ?_; go_simp; (with_reducible apply hK); clear hK K)
  (refine Pm.head (i := 5) rfl (fun K hK => ?_); refine Pl.plan_plain (.pointer (some ⟨b, 10, none⟩)) (by first | rfl | simp [Region.wanted, yielded]) (fun w' hw' => by go_simp) ?_; go_simp; (with_reducible apply hK); clear hK K)
  (refine Pm.head (i := 6) rfl (fun K hK => ?_); refine plan_loadN (b := b) (off := 10) (cs := uvals lb) (fun w' hw' => rgE (p := ld ++ lt) (l := lb) (by rw [List.append_assoc]; exact hw'.blk OC (fun h => h)) (by rw [List.length_append, Ld.len, Lt.len])) Tryz.underlying72 rfl (by rw [U9]; exact q_size) (by first | rfl | simp [Region.wanted, yielded]) rfl (by go_simp) ?_; go_simp; (with_reducible apply hK); clear hK K)
  refine Pm.sole (i := 7) rfl (fun w2 h2 Q hQ => ?_)
  go_wp2_with fail
  refine (HX.out.2.1 b lb lb w2 (CV1.below h2) PB).mono ?_
  rintro e w3 ⟨lo, rfl, PO, hb⟩
  go_wp2_with fail
  refine hQ _ _ hb ?_
  clear hQ Q
  go_simp
  have R3 : Rw w1.drew w3 := Rw.trans h2 hb
  clear h2 hb
  (refine Pm.head (i := 8) rfl (fun K hK => ?_); refine Pl.plan_call (.agg (bvals Ab).toArray) 35 #[.agg (uvals lo).toArray] (by first | rfl | simp [Region.wanted, yielded]) (fun w' => by go_simp) (fun w' hw' => HX.out.2.2.2 lo w' PO) ?_; go_simp; (with_reducible apply hK); clear hK K)
  refine Pm.nil (fun w6 h6 => ?_)
  intro c7 w7 h7 hc OC7
  refine Pl.plan_sole (i := 10) rfl (fun w8 h8 Q hQ => ?_)
  have OC8 := OC7.below h8 OC7.lt
  have R8 : Rw w1.drew w8 := Rw.trans (Rw.trans (Rw.trans R3 h6) h7) h8
  refine store_ar OC8 rfl LA rfl rfl (by go_simp) (by go_simp) ?_
  unfold wpList
  have R9 : Rw w1.drew (w8.setRow c7 (bvals Ab).toArray) := below_row R8 _ _ hc
  refine hQ _ _ (Keeps.of_below R9) ?_
  clear hQ Q
  go_simp
  refine Pl.plan_nil (fun wz hz => ?_)
  have hc27 : c6 < c7 := Nat.lt_of_lt_of_le M6.lt hc
  have RZ : Rw w1.drew wz := Rw.trans R9 hz
  go_simp
  go_upto_region 3 with fail
  refine wp_gen (fun wx => Blk wx c7 tB (bvals Ab) ∧ Blk wx c6 tS (secV ks (by8 pf)) ∧ Blk wx (w.heap.size + 1) 55 (bvals (List.replicate 64 0)) ∧ CvE wx b lb ∧ Below w.heap.size w wx) ⟨(OC8.setRow _).below hz (OC8.setRow _).lt, M6.below RZ M6.lt, M2.below RZ M2.lt, CV1.below RZ, BD.trans (RZ.mono BD.size)⟩ ?_
  clear RZ hz R9 OC8 R8 h8 OC7 h7 h6 R3 CV1 M6 M2 BD hc PO OC Ld Lt LB U9 ld lt w1 w3 w6 w7 w8 wz
  rintro w1 ⟨O7, O6, O2, CV, BW⟩
  have c32 : w1.cell? ⟨c6, 32, none⟩ = some (.string (by8 pf)) := O6.cell 32 _ (by
    unfold secV
    rw [List.getElem?_append_right (by rw [bvals_len, LK]; exact Nat.le_refl _), bvals_len, LK]; rfl)
  have hc2' : w.heap.size + 2 ≤ w1.heap.size := Nat.le_trans hc2 (Nat.le_of_lt O6.lt)
  have H1 : Hid (Blk w1 c7 tB (bvals Ab) ∧ Blk w1 c6 tS (secV ks (by8 pf)) ∧ Blk w1 (w.heap.size + 1) 55 (bvals (List.replicate 64 0)) ∧ CvE w1 b lb ∧ Below w.heap.size w w1) := ⟨O7, O6, O2, CV, BW⟩
  clear O7 O6 O2 CV BW
  go_wp2_with fail
  have N1 : Below w1.heap.size w1 (w1.alloc (.cells #[.string (by8 pf), .string (by8 m)] 9)) := below1 _ _
  refine (RD1'.out w1.heap.size _ _ (H1.out.2.2.2.2.trans (N1.mono H1.out.2.2.2.2.size)) (Blk.new w1 _ [.string (by8 pf), .string (by8 m)])).mono ?_
  rintro e w3 ⟨rfl, hb⟩
  have R3 : Rw w1 w3 := Rw.trans N1 hb
  go_upto_region 4 with (refine store_ar (Blk.new w3 tB (bvals (List.replicate 32 0))) rfl Lr rfl rfl (by go_simp) (by go_simp) ?_)
  have hs3 := R3.size
  have ha3 : Below w3.heap.size w3 (w3.alloc (.cells (bvals (List.replicate 32 0)).toArray tB)) := below1 _ _
  have R4 : Rw w1 ((w3.alloc (.cells (bvals (List.replicate 32 0)).toArray tB)).setRow w3.heap.size (bvals r).toArray) := below_row (Rw.trans R3 ha3) _ _ hs3
  refine wp_gen (fun wx => Blk wx w3.heap.size tB (bvals r) ∧ Blk wx c7 tB (bvals Ab) ∧ Blk wx c6 tS (secV ks (by8 pf)) ∧ Blk wx (w.heap.size + 1) 55 (bvals (List.replicate 64 0)) ∧ CvE wx b lb ∧ Below w.heap.size w wx) ⟨(Blk.new w3 tB (bvals (List.replicate 32 0))).setRow _, H1.out.1.below R4 H1.out.1.lt, H1.out.2.1.below R4 H1.out.2.1.lt, H1.out.2.2.1.below R4 H1.out.2.2.1.lt, H1.out.2.2.2.1.below R4, H1.out.2.2.2.2.trans (R4.mono H1.out.2.2.2.2.size)⟩ ?_
  have hc78 : c7 < w3.heap.size := Nat.lt_of_lt_of_le H1.out.1.lt hs3
  clear R4 ha3 R3 hb N1 H1 RD1' c32 hc2'
  generalize w3.heap.size = c8 at *
  clear hs3 w3
  rintro w4 ⟨O8, O7, O6, O2, CV, BW⟩
  have M8 : Blk w4.drew c8 tB (bvals r) := O8
  have M7 : Blk w4.drew c7 tB (bvals Ab) := O7
  have M6 : Blk w4.drew c6 tS (secV ks (by8 pf)) := O6
  have M2 : Blk w4.drew (w.heap.size + 1) 55 (bvals (List.replicate 64 0)) := O2
  have CV1 : CvE w4.drew b lb := CV.below (below_drewN (Below.refl _ _) 1)
  have BD : Below w.heap.size w w4.drew := below_drewN BW 1
  obtain ⟨ld, lt, OC, Ld, Lt, LB⟩ := CV1.parts
  have U9 : (uvals lb).length = 20 := by rw [uvals_len, LB]
  clear O8 O7 O6 O2 CV BW
  go_simp
  refine Pm.wp_region_late (fun _ => False) 8 [(true, 0), (true, 1), (true, 2), (true, 3), (true, 4), (true, 5), (false, 6), (true, 7)] [(false, 9)] run_alloc_b rfl rfl rfl rfl (by kernel_rfl) (by kernel_rfl) ?_
  (refine Pm.head (i := 0) rfl (fun K hK => ?_); refine Pl.plan_plain (.pointer (some ⟨b, 0, none⟩)) (by first | rfl | simp [Region.wanted, yielded]) (fun w' hw' => by go_simp) ?_; go_simp; (with_reducible apply hK); clear hK K)
  (refine Pm.head (i := 1) rfl (fun K hK => ?_); refine Pl.plan_load (fun w' hw' => hw'.blk M8 (fun h => h)) Tryz.underlying48 rfl arr32_size (blen Lr) (by first | rfl | simp [Region.wanted, yielded]) rfl (by go_simp) ?_; go_simp; (with_reducible apply hK); clear hK K)
  (refine Pm.head (i := 2) rfl (fun K hK => ?_); refine Pl.plan_plain (.pointer (some ⟨b, 0, none⟩)) (by first | rfl | simp [Region.wanted, yielded]) (fun w' hw' => by go_simp) ?_; go_simp; (with_reducible apply hK); clear hK K)
  (refine Pm.head (i := 3) rfl (fun K hK => ?_); refine Pl.plan_plain (.pointer (some ⟨b, 0, none⟩)) (by first | rfl | simp [Region.wanted, yielded]) (fun w' hw' => by go_simp) ?_; go_simp; (with_reducible apply hK); clear hK K)
  (refine Pm.head (i := 4) rfl (fun K hK => ?_); refine Pl.plan_plain (.pointer (some ⟨b, 10, none⟩)) (by first | rfl | simp [Region.wanted, yielded]) (fun w' hw' => by go_simp) ?_; go_simp; (with_reducible apply hK); clear hK K)
  (refine Pm.head (i := 5) rfl (fun K hK => ?_); refine plan_loadN (b := b) (off := 10) (cs := uvals lb) (fun w' hw' => rgE (p := ld ++ lt) (l := lb) (by rw [List.append_assoc]; exact hw'.blk OC (fun h => h)) (by rw [List.length_append, Ld.len, Lt.len])) Tryz.underlying72 rfl (by rw [U9]; exact q_size) (by first | rfl | simp [Region.wanted, yielded]) rfl (by go_simp) ?_; go_simp; (with_reducible apply hK); clear hK K)
  refine Pm.sole (i := 6) rfl (fun w2 h2 Q hQ => ?_)
  go_wp2_with fail
  refine (HX.out.1 b lb lb w2 (CV1.below h2) PB).mono ?_
  rintro e w3 ⟨lo2, rfl, PO, hb⟩
  go_wp2_with fail
  refine hQ _ _ hb ?_
  clear hQ Q
  go_simp
  have R3 : Rw w4.drew w3 := Rw.trans h2 hb
  clear h2 hb
  (refine Pm.head (i := 7) rfl (fun K hK => ?_); refine Pl.plan_call (.agg (bvals Rb).toArray) 35 #[.agg (uvals lo2).toArray] (by first | rfl | simp [Region.wanted, yielded]) (fun w' => by go_simp) (fun w' hw' => HX.out.2.2.1 lo2 w' PO) ?_; go_simp; (with_reducible apply hK); clear hK K)
  refine Pm.nil (fun w6 h6 => ?_)
  intro c9 w7 h7 hc OC7
  refine Pl.plan_sole (i := 9) rfl (fun w8 h8 Q hQ => ?_)
  have OC8 := OC7.below h8 OC7.lt
  have R8 : Rw w4.drew w8 := Rw.trans (Rw.trans (Rw.trans R3 h6) h7) h8
  refine store_ar OC8 rfl LR rfl rfl (by go_simp) (by go_simp) ?_
  unfold wpList
  have R9 : Rw w4.drew (w8.setRow c9 (bvals Rb).toArray) := below_row R8 _ _ hc
  refine hQ _ _ (Keeps.of_below R9) ?_
  clear hQ Q
  go_simp
  refine Pl.plan_nil (fun wz hz => ?_)
  have hc89 : c8 < c9 := Nat.lt_of_lt_of_le M8.lt hc
  have RZ : Rw w4.drew wz := Rw.trans R9 hz
  go_simp
  go_upto_region 5 with fail
  refine wp_gen (fun wx => Blk wx c9 tB (bvals Rb) ∧ Blk wx c8 tB (bvals r) ∧ Blk wx c7 tB (bvals Ab) ∧ Blk wx c6 tS (secV ks (by8 pf)) ∧ Blk wx (w.heap.size + 1) 55 (bvals (List.replicate 64 0)) ∧ Below w.heap.size w wx) ⟨(OC8.setRow _).below hz (OC8.setRow _).lt, M8.below RZ M8.lt, M7.below RZ M7.lt, M6.below RZ M6.lt, M2.below RZ M2.lt, BD.trans (RZ.mono BD.size)⟩ ?_
  clear RZ hz R9 OC8 R8 h8 OC7 h7 h6 R3 CV1 M8 M7 M6 M2 BD hc PO OC Ld Lt LB U9 ld lt w4 w2 w3 w6 w7 w8 wz HX PB
  rintro w4 ⟨O9, O8, O7, O6, O2, BW⟩
  have M9 : Blk w4.drew c9 tB (bvals Rb) := O9
  have M8 : Blk w4.drew c8 tB (bvals r) := O8
  have M7 : Blk w4.drew c7 tB (bvals Ab) := O7
  have M6 : Blk w4.drew c6 tS (secV ks (by8 pf)) := O6
  have M2 : Blk w4.drew (w.heap.size + 1) 55 (bvals (List.replicate 64 0)) := O2
  have BD : Below w.heap.size w w4.drew := below_drewN BW 1
  have V9 : ∀ w', Keeps (fun _ => False) w4.drew w' → (convert 50 9 (.slice (some ⟨c9, 0, none⟩) 32 32)).run Tryz.prog w' = .ok (.string (by8 Rb)) w' := fun w' hw' => conv_mid (hw'.blk M9 (fun h => h)) 0 32 32 (by rw [LR])
  have V7 : ∀ w', Keeps (fun _ => False) w4.drew w' → (convert 50 9 (.slice (some ⟨c7, 0, none⟩) 32 32)).run Tryz.prog w' = .ok (.string (by8 Ab)) w' := fun w' hw' => conv_mid (hw'.blk M7 (fun h => h)) 0 32 32 (by rw [LA])
  clear O9 O8 O7 O6 O2 BW
  go_simp
  refine Pm.wp_region_late (fun _ => False) 11 [(true, 0), (true, 1), (true, 2), (true, 3), (true, 4), (true, 7), (true, 8), (true, 9), (false, 5), (false, 6), (true, 10)] [(false, 12)] run_alloc_b rfl rfl rfl rfl (by kernel_rfl) (by kernel_rfl) ?_
  (refine Pm.head (i := 0) rfl (fun K hK => ?_); refine Pl.plan_plain (.slice (some ⟨c9, 0, none⟩) 32 32) (by first | rfl | simp [Region.wanted, yielded]) (fun w' hw' => by go_simp) ?_; go_simp; (with_reducible apply hK); clear hK K)
  (refine Pm.head (i := 1) rfl (fun K hK => ?_); refine Pl.plan_plain (.string (by8 Rb)) (by first | rfl | simp [Region.wanted, yielded]) (fun w' hw' => by have h := V9 w' hw'; go_simp; try simp [h]) ?_; go_simp; (with_reducible apply hK); clear hK K)
  (refine Pm.head (i := 2) rfl (fun K hK => ?_); refine Pl.plan_plain (.slice (some ⟨c7, 0, none⟩) 32 32) (by first | rfl | simp [Region.wanted, yielded]) (fun w' hw' => by go_simp) ?_; go_simp; (with_reducible apply hK); clear hK K)
  (refine Pm.head (i := 3) rfl (fun K hK => ?_); refine Pl.plan_plain (.string (by8 Ab)) (by first | rfl | simp [Region.wanted, yielded]) (fun w' hw' => by have h := V7 w' hw'; go_simp; try simp [h]) ?_; go_simp; (with_reducible apply hK); clear hK K)
  (refine Pm.head (i := 4) rfl (fun K hK => ?_); refine Pl.plan_plain (.string (by8 m)) (by first | rfl | simp [Region.wanted, yielded]) (fun w' hw' => by go_simp) ?_; go_simp; (with_reducible apply hK); clear hK K)
  (refine Pm.head (i := 7) rfl (fun K hK => ?_); refine Pl.plan_plain (.pointer (some ⟨c6, 0, none⟩)) (by first | rfl | simp [Region.wanted, yielded]) (fun w' hw' => by go_simp) ?_; go_simp; (with_reducible apply hK); clear hK K)
  (refine Pm.head (i := 8) rfl (fun K hK => ?_); refine plan_loadN (b := c6) (off := 0) (cs := bvals ks) (fun w' hw' => rg_sec (hw'.blk M6 (fun h => h))) Tryz.underlying48 rfl (by rw [blen LK]; exact arr32_size) (by first | rfl | simp [Region.wanted, yielded]) rfl (by go_simp) ?_; go_simp; (with_reducible apply hK); clear hK K)
  (refine Pm.head (i := 9) rfl (fun K hK => ?_); refine Pl.plan_load (fun w' hw' => hw'.blk M8 (fun h => h)) Tryz.underlying48 rfl arr32_size (blen Lr) (by first | rfl | simp [Region.wanted, yielded]) rfl (by go_simp) ?_; go_simp; (with_reducible apply hK); clear hK K)
  refine Pm.sole (i := 5) rfl (fun w2 h2 Q hQ => ?_)
  go_wp2_with fail
  have NB : Blk (w2.alloc (.cells #[.string (by8 Rb), .string (by8 Ab), .string (by8 m)] 9)) w2.heap.size 9 [.string (by8 Rb), .string (by8 Ab), .string (by8 m)] := Blk.new _ _ _
  have N1 : Rw w2 (w2.alloc (.cells #[.string (by8 Rb), .string (by8 Ab), .string (by8 m)] 9)) := below1 _ _
  refine hQ _ _ N1 ?_
  clear hQ Q
  go_simp
  have R3 : Rw w4.drew (w2.alloc (.cells #[.string (by8 Rb), .string (by8 Ab), .string (by8 m)] 9)) := Rw.trans h2 N1
  clear N1
  generalize w2.alloc (.cells #[.string (by8 Rb), .string (by8 Ab), .string (by8 m)] 9) = w3 at *
  refine Pm.sole (i := 6) rfl (fun w5 h5 Q hQ => ?_)
  go_wp2_with fail
  have R5 : Rw w4.drew w5 := Rw.trans R3 h5
  refine (RD2'.out w2.heap.size _ w5 (BD.trans (R5.mono BD.size)) (NB.below h5 NB.lt)).mono ?_
  rintro e w6 ⟨rfl, hb⟩
  go_wp2_with fail
  refine hQ _ _ hb ?_
  clear hQ Q
  go_simp
  have R6 : Rw w4.drew w6 := Rw.trans R5 hb
  clear h5 hb R5 R3 NB
  (refine Pm.head (i := 10) rfl (fun K hK => ?_); refine Pl.plan_call (.agg (bvals s).toArray) 45 #[.agg (bvals k).toArray, .agg (bvals ks).toArray, .agg (bvals r).toArray] (by first | rfl | simp [Region.wanted, yielded]) (fun w' => by go_simp) (fun w' hw' => MA'.out w' (BD.trans (hw'.below BD.size (fun k hk e => by omega)))) ?_; go_simp; (with_reducible apply hK); clear hK K)
  refine Pm.nil (fun w7 h7 => ?_)
  intro c10 w8 h8 hc OC7
  refine Pl.plan_sole (i := 12) rfl (fun w9 h9 Q hQ => ?_)
  have OC8 := OC7.below h9 OC7.lt
  have R8 : Rw w4.drew w9 := Rw.trans (Rw.trans (Rw.trans R6 h7) h8) h9
  refine store_ar OC8 rfl Ls rfl rfl (by go_simp) (by go_simp) ?_
  unfold wpList
  have R9 : Rw w4.drew (w9.setRow c10 (bvals s).toArray) := below_row R8 _ _ hc
  refine hQ _ _ (Keeps.of_below R9) ?_
  clear hQ Q
  go_simp
  refine Pl.plan_nil (fun wz hz => ?_)
  have hc9 : c9 < c10 := Nat.lt_of_lt_of_le M9.lt hc
  have RZ : Rw w4.drew wz := Rw.trans R9 hz
  go_simp
  go_upto_region 6 with fail
  refine wp_gen (fun wx => Blk wx c10 tB (bvals s) ∧ Blk wx c9 tB (bvals Rb) ∧ Blk wx (w.heap.size + 1) 55 (bvals (List.replicate 64 0)) ∧ Below w.heap.size w wx) ⟨(OC8.setRow _).below hz (OC8.setRow _).lt, M9.below RZ M9.lt, M2.below RZ M2.lt, BD.trans (RZ.mono BD.size)⟩ ?_
  clear RZ hz R9 OC8 R8 h8 OC7 h7 R6 M9 M8 M7 M6 M2 BD hc V9 V7 h9 h2 w3 w4 w5 w6 w7 w8 w9 wz MA' RD2'
  rintro w4 ⟨O10, O9, O2, BW⟩
  go_simp
  go_upto_region 7 with fail
  have n10 := O10.lt
  have n9 := O9.lt
  have n2 := O2.lt
  refine wp_gen (fun wx => Blk wx w4.heap.size 55 (bvals (List.replicate 64 0)) ∧ Blk wx c10 tB (bvals s) ∧ Blk wx c9 tB (bvals Rb) ∧ Blk wx (w.heap.size + 1) 55 (bvals (List.replicate 64 0)) ∧ Below w.heap.size w wx) ⟨Blk.new w4 _ (bvals (List.replicate 64 0)), O10.alloc _, O9.alloc _, O2.alloc _, BW.alloc BW.size _⟩ ?_
  clear O10 O9 O2 BW
  generalize w4.heap.size = c11 at *
  rintro w4 ⟨O11, O10, O9, O2, BW⟩
  have M10 : Blk w4.drew c10 tB (bvals s) := O10
  have M9 : Blk w4.drew c9 tB (bvals Rb) := O9
  have M11 : Blk w4.drew c11 55 (bvals (List.replicate 64 0)) := O11
  have M2 : Blk w4.drew (w.heap.size + 1) 55 (bvals (List.replicate 64 0)) := O2
  have BD : Below w.heap.size w w4.drew := below_drewN BW 1
  clear O11 O10 O9 O2 BW
  (refine Pl.wp_region_plan (fun k => k = c11) [(true, 0), (true, 1), (false, 2)] (by kernel_rfl) (by kernel_rfl) ?_)
  (refine Pl.plan_head (i := 0) rfl (fun K hK => ?_); refine Pl.plan_plain (.slice (some ⟨c11, 0, none⟩) 64 64) (by first | rfl | simp [Region.wanted, yielded]) (fun w' hw' => by go_simp) ?_; go_simp; (with_reducible apply hK); clear hK K)
  (refine Pl.plan_head (i := 1) rfl (fun K hK => ?_); refine Pl.plan_plain (.slice (some ⟨c9, 0, none⟩) 32 32) (by first | rfl | simp [Region.wanted, yielded]) (fun w' hw' => by go_simp) ?_; go_simp; (with_reducible apply hK); clear hK K)
  refine Pl.plan_sole (i := 2) rfl (fun w6 h6 Q hQ => ?_)
  have N11 := M11.below h6 M11.lt
  have NS := M9.below h6 M9.lt
  refine wpList_copy_own rfl (.tmp 48) (.tmp 49) 50 50 rfl 5 Tryz.underlying50 (by kernel_rfl) c11 0 64 64 ⟨c9, 0, none⟩ 32 32 rfl rfl (bvals (List.replicate 64 0)).toArray 55 N11 (bvals Rb) (by rw [bvals_len, LR]; rfl) (fun j v hv => ?src) (by rw [bvals_len, LR]; show 0 + 32 ≤ (bvals (List.replicate 64 0)).toArray.size; rw [List.size_toArray, bvals_len]; simp) (bone _) ?_
  case src =>
    rw [Addr.add_lit]
    exact NS.cell (0 + j) v (by rw [Nat.zero_add]; exact hv)
  have e0 : ((bvals (List.replicate 64 0)).toArray.toList.take 0 ++ (bvals Rb ++ (bvals (List.replicate 64 0)).toArray.toList.drop (0 + (bvals Rb).length))) = bvals (Rb ++ List.replicate 32 0) := by
    rw [bvals_len, LR]
    show [] ++ (bvals Rb ++ bvals (List.replicate 32 0)) = _
    simp [bvals]
  rw [e0]
  unfold wpList
  refine hQ _ _ ((Keeps.of_below h6).row _ _ (fun _ => rfl)) ?_
  clear hQ Q e0
  go_simp
  refine Pl.plan_nil (fun wz hz => ?_)
  have R6 : Below w.heap.size w (w6.setRow c11 (bvals (Rb ++ List.replicate 32 0)).toArray) := below_row (BD.trans (h6.mono BD.size)) _ _ (by omega)
  have G10 := ((M10.below h6 M10.lt).farRow (show c10 ≠ c11 by omega) (bvals (Rb ++ List.replicate 32 0)).toArray).below hz
  have G9 := ((M9.below h6 M9.lt).farRow (show c9 ≠ c11 by omega) (bvals (Rb ++ List.replicate 32 0)).toArray).below hz
  have G2 := ((M2.below h6 M2.lt).farRow (show w.heap.size + 1 ≠ c11 by omega) (bvals (Rb ++ List.replicate 32 0)).toArray).below hz
  go_simp
  go_upto_region 8 with fail
  refine wp_gen (fun wx => Blk wx c11 55 (bvals (Rb ++ List.replicate 32 0)) ∧ Blk wx c10 tB (bvals s) ∧ Blk wx c9 tB (bvals Rb) ∧ Blk wx (w.heap.size + 1) 55 (bvals (List.replicate 64 0)) ∧ Below w.heap.size w wx) ⟨(N11.setRow (bvals (Rb ++ List.replicate 32 0))).below hz (N11.setRow (bvals (Rb ++ List.replicate 32 0))).lt, G10 ((M10.below h6 M10.lt).farRow (show c10 ≠ c11 by omega) (bvals (Rb ++ List.replicate 32 0)).toArray).lt, G9 ((M9.below h6 M9.lt).farRow (show c9 ≠ c11 by omega) (bvals (Rb ++ List.replicate 32 0)).toArray).lt, G2 ((M2.below h6 M2.lt).farRow (show w.heap.size + 1 ≠ c11 by omega) (bvals (Rb ++ List.replicate 32 0)).toArray).lt, R6.trans (hz.mono R6.size)⟩ ?_
  clear G10 G9 G2 R6 hz h6 N11 NS M11 M10 M9 M2 BD w4 w6 wz
  rintro w4 ⟨O11, O10, O9, O2, BW⟩
  -- second
  have M10 : Blk w4.drew c10 tB (bvals s) := O10
  have M9 : Blk w4.drew c9 tB (bvals Rb) := O9
  have M11 : Blk w4.drew c11 55 (bvals (Rb ++ List.replicate 32 0)) := O11
  have M2 : Blk w4.drew (w.heap.size + 1) 55 (bvals (List.replicate 64 0)) := O2
  have BD : Below w.heap.size w w4.drew := below_drewN BW 1
  clear O11 O10 O9 O2 BW
  (refine Pl.wp_region_plan (fun k => k = c11) [(true, 0), (true, 1), (false, 2)] (by kernel_rfl) (by kernel_rfl) ?_)
  (refine Pl.plan_head (i := 0) rfl (fun K hK => ?_); refine Pl.plan_plain (.slice (some ⟨c11, 32, none⟩) 32 32) (by first | rfl | simp [Region.wanted, yielded]) (fun w' hw' => by go_simp) ?_; go_simp; (with_reducible apply hK); clear hK K)
  (refine Pl.plan_head (i := 1) rfl (fun K hK => ?_); refine Pl.plan_plain (.slice (some ⟨c10, 0, none⟩) 32 32) (by first | rfl | simp [Region.wanted, yielded]) (fun w' hw' => by go_simp) ?_; go_simp; (with_reducible apply hK); clear hK K)
  refine Pl.plan_sole (i := 2) rfl (fun w6 h6 Q hQ => ?_)
  have N11 := M11.below h6 M11.lt
  have NS := M10.below h6 M10.lt
  refine wpList_copy_own rfl (.tmp 51) (.tmp 52) 50 50 rfl 5 Tryz.underlying50 (by kernel_rfl) c11 32 32 32 ⟨c10, 0, none⟩ 32 32 rfl rfl (bvals (Rb ++ List.replicate 32 0)).toArray 55 N11 (bvals s) (by rw [bvals_len, Ls]; rfl) (fun j v hv => ?src) (by rw [bvals_len, Ls]; show 32 + 32 ≤ (bvals (Rb ++ List.replicate 32 0)).toArray.size; rw [List.size_toArray, bvals_len]; simp [LR]) (bone _) ?_
  case src =>
    rw [Addr.add_lit]
    exact NS.cell (0 + j) v (by rw [Nat.zero_add]; exact hv)
  have e0 : ((bvals (Rb ++ List.replicate 32 0)).toArray.toList.take 32 ++ (bvals s ++ (bvals (Rb ++ List.replicate 32 0)).toArray.toList.drop (32 + (bvals s).length))) = bvals (Rb ++ s) := by
    rw [bvals_len, Ls]
    show (bvals (Rb ++ List.replicate 32 0)).take 32 ++ (bvals s ++ (bvals (Rb ++ List.replicate 32 0)).drop 64) = _
    unfold bvals
    rw [List.map_append, List.take_left' (by simp [LR]), List.drop_of_length_le (by simp [LR]), List.append_nil, List.map_append]
  rw [e0]
  unfold wpList
  refine hQ _ _ ((Keeps.of_below h6).row _ _ (fun _ => rfl)) ?_
  clear hQ Q e0
  go_simp
  refine Pl.plan_nil (fun wz hz => ?_)
  have R6 : Below w.heap.size w (w6.setRow c11 (bvals (Rb ++ s)).toArray) := below_row (BD.trans (h6.mono BD.size)) _ _ (by omega)
  have G10 := ((M10.below h6 M10.lt).farRow (show c10 ≠ c11 by omega) (bvals (Rb ++ s)).toArray).below hz
  have G9 := ((M9.below h6 M9.lt).farRow (show c9 ≠ c11 by omega) (bvals (Rb ++ s)).toArray).below hz
  have G2 := ((M2.below h6 M2.lt).farRow (show w.heap.size + 1 ≠ c11 by omega) (bvals (Rb ++ s)).toArray).below hz
  go_simp
  go_upto_region 9 with fail
  refine wp_gen (fun wx => Blk wx c11 55 (bvals (Rb ++ s)) ∧ Blk wx c10 tB (bvals s) ∧ Blk wx c9 tB (bvals Rb) ∧ Blk wx (w.heap.size + 1) 55 (bvals (List.replicate 64 0)) ∧ Below w.heap.size w wx) ⟨(N11.setRow (bvals (Rb ++ s))).below hz (N11.setRow (bvals (Rb ++ s))).lt, G10 ((M10.below h6 M10.lt).farRow (show c10 ≠ c11 by omega) (bvals (Rb ++ s)).toArray).lt, G9 ((M9.below h6 M9.lt).farRow (show c9 ≠ c11 by omega) (bvals (Rb ++ s)).toArray).lt, G2 ((M2.below h6 M2.lt).farRow (show w.heap.size + 1 ≠ c11 by omega) (bvals (Rb ++ s)).toArray).lt, R6.trans (hz.mono R6.size)⟩ ?_
  clear G10 G9 G2 R6 hz h6 N11 NS M11 M10 M9 M2 BD w4 w6 wz
  rintro w4 ⟨O11, O10, O9, O2, BW⟩
  have L64 : (bvals (Rb ++ s)).length = 64 := by rw [bvals_len, List.length_append]; omega
  go_wp2_with (first | refine load_blk64 O11 L64 rfl rfl rfl ?_ | refine store_blk (n := 64) (cs := bvals (Rb ++ s)) O2 arr64s_size L64 rfl (bone _) rfl rfl rfl rfl ?_)
  exact ret_blk rfl (O2.setRow _) Tryz.underlying55 rfl arr64s_size L64 rfl rfl ⟨rfl, below_row BW _ _ (by omega)⟩
end Eds
end Go.Proofs.YtkhdhiddhnmdkaaGreatDoor
