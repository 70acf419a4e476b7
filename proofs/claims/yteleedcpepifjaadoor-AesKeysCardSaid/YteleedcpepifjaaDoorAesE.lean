/-
The walk of Block.
-/
import Derived.Test.YteleedcpepifjaaDoorAesM
import Derived.Test.YteleedcpepifjaaDoorDriftT
namespace Go.Proofs.YteleedcpepifjaaDoor
open Go.RowKit AesP
set_option maxRecDepth 100000
theorem run_alloc_st (w : World) : (Instr.alloc 54 true (.tuple #[])).run Tryd.prog w = .ok (.pointer (some ⟨w.heap.size, 0, none⟩)) (w.alloc (.cells (b8 z16).toArray 54)) := by kernel_rfl
section
variable {ops : Array Oper} {w0 : World} {K : Act → World → Prop}
theorem driftT_alloc8 {t : TypeId} {z : List Nat} {o : Oper} {rest : List Oper} {a : Act} {w : World} {d : Tmp} (hal : ∀ w, (Instr.alloc t true (.tuple #[])).run Tryd.prog w = .ok (.pointer (some ⟨w.heap.size, 0, none⟩)) (w.alloc (.cells (b8 z).toArray t)))
    (hw0 : Rw w0 w) (hg : o.guard = none) (ha : o.op = .alloc t) (hd : o.dst = some d) (h : ∀ c w', Rw w w' → w.heap.size ≤ c → Blk w' c t (b8 z) → wpListD Tryd.prog ops w0 K rest (a.put (some d) (.pointer (some ⟨c, 0, none⟩))) w') :
    wpListD Tryd.prog ops w0 K (o :: rest) a w := by
  refine driftT_make (G := fun v w' => ∃ c, v = .pointer (some ⟨c, 0, none⟩) ∧ w.heap.size ≤ c ∧ Blk w' c t (b8 z)) hw0 (by simp [Region.wanted, hg]) (fun w1 h1 => ?_) ?_
  · refine ⟨_, _, ?_, (Below.refl _ _).alloc (Nat.le_refl _) _, ⟨w1.heap.size, rfl, h1.size, Blk.new w1 t (b8 z)⟩⟩
    unfold execOp
    simp only [ha, Sem.run_bind, hal w1, Result.andThen_ok, Sem.run_pure]
  · rintro v w' hw ⟨c, rfl, hc, hb⟩
    rw [hd]
    exact h c w' hw hc hb
theorem driftT_store8 {t : TypeId} {n : Nat} {old l : List Nat} {o : Oper} {rest : List Oper} {a : Act} {w : World} {b : Nat} {x y : Operand} (hsz : (Tryd.prog.info? t).map (·.size) = some n) (hw0 : Rw w0 w) (hb : Blk w b t (b8 old)) (hold : old.length = n) (hl : l.length = n)
    (hnew : w0.heap.size ≤ b) (hg : o.guard = none) (hds : o.dst = none) (ho : o.op = .store t x y) (hx : a.eval x = .pointer (some ⟨b, 0, none⟩)) (hy : a.eval y = .agg (b8 l).toArray)
    (h : ∀ w', Rw w0 w' → Blk w' b t (b8 l) → wpListD Tryd.prog ops w0 K rest a w') : wpListD Tryd.prog ops w0 K (o :: rest) a w := by
  refine driftT_step (fun w1 h1 Q' hQ' => ?_)
  have hb1 := hb.below h1 hb.lt
  have hW1 := Rw.trans hw0 h1
  refine store_blk (n := n) (t := t) (b := b) (old := b8 old) (cs := b8 l) hb1 hsz (by rw [b8_len, hl]) (by rw [b8_len, hold]) (b8_one l) hg ho hx hy ?_
  have hW2 : Rw w0 (w1.setRow b (b8 l).toArray) := below_row hW1 _ _ hnew
  refine hQ' _ _ hW2 ?_
  rw [hds]
  exact h _ hW2 (hb1.setRow _)
end
/-- a slice's words, from a word on -/
theorem drop_get (W : List Nat) (m j : Nat) : (W.drop m).getD j 0 = W.getD (m + j) 0 := by rw [List.getD_eq_getElem?_getD, List.getD_eq_getElem?_getD, List.getElem?_drop]
/-- a cipher of a key's words -/
def Ci (w : World) (c t bw o n cap : Nat) (W : List Nat) : Prop := Blk w c 48 [.pointer (some ⟨t, 0, none⟩), .slice (some ⟨bw, o, none⟩) n cap] ∧ Tab w t ∧ W.length = 4 * n ∧ n ≤ cap ∧ (∀ j, j < W.length → w.cell? ⟨bw, o + j, none⟩ = some (.int .u8 (W.getD j 0 : Nat))) ∧ By W
theorem Ci.below {w w' : World} {c t bw o n cap : Nat} {W : List Nat} (h : Ci w c t bw o n cap W) (hb : Below w.heap.size w w') : Ci w' c t bw o n cap W :=
  ⟨h.1.below hb h.1.lt, Blk.below h.2.1 hb (Blk.lt h.2.1), h.2.2.1, h.2.2.2.1, fun j hj => (hb.cell (cell_lt8 (h.2.2.2.2.1 j hj))).trans (h.2.2.2.2.1 j hj), h.2.2.2.2.2⟩
theorem Ci.at {w : World} {c t bw o n cap : Nat} {W : List Nat} (h : Ci w c t bw o n cap W) {m l cp : Nat} (hm : 4 * m + 4 * l = W.length) (hl : l ≤ cp) : WAt w (.slice (some ⟨bw, o + 4 * m, none⟩) l cp) (W.drop (4 * m)) :=
  ⟨bw, o + 4 * m, l, cp, rfl, by rw [List.length_drop]; omega, hl, fun j hj => by
    rw [List.length_drop] at hj
    rw [drop_get, ← h.2.2.2.2.1 (4 * m + j) (by omega), Nat.add_assoc]⟩
def slLen : Value → Nat
  | .slice _ n _ => n
  | _ => 0
theorem Ci.wat {w : World} {c t bw o n cap : Nat} {W : List Nat} (h : Ci w c t bw o n cap W) : WAt w (.slice (some ⟨bw, o, none⟩) n cap) W := ⟨bw, o, n, cap, rfl, h.2.2.1, h.2.2.2.1, h.2.2.2.2.1⟩
set_option maxHeartbeats 8000000 in
theorem block_ok (c t bw o n cap r : Nat) (W b : List Nat) (hr : n = 4 * (r + 1)) (hr1 : 1 ≤ r) (lb : b.length = 16) (hb : By b) (w : World) (hC : Ci w c t bw o n cap W) :
    Calls Tryd.prog 11 #[.pointer (some ⟨c, 0, none⟩), .agg (b8 b).toArray] w fun e w' => e = .returned (.agg (b8 (block sbT W r b)).toArray) ∧ Below w.heap.size w w' := by
  have HB := Lib.hid (And.intro hb lb)
  have HC := Lib.hid hC
  have lW : W.length = 4 * n := hC.2.2.1
  have hcap : n ≤ cap := hC.2.2.2.1
  have HW : Hid (By W) := hC.2.2.2.2.2
  have LW16 : 16 ≤ W.length := by omega
  have HR := Lib.hid hr
  have HR1 := Lib.hid hr1
  have hn4 : 8 ≤ n := by omega
  have HCAP := Lib.hid hcap
  clear hb lb hC hr hr1
  go_enter Tryd.func11, Tryd.ntmps11
  go_upto_region 1 with fail
  refine wp_gen (fun wx => Blk wx w.heap.size 25 (b8 b) ∧ Blk wx (w.heap.size + 1) 25 (b8 z16) ∧ Below w.heap.size w wx) ⟨(Blk.new w _ (b8 b)).alloc _, Blk.new2 _ _ _ (b8 z16), below2 _ _ _⟩ ?_
  rintro w1 ⟨O1, O2, BW⟩
  have D0 : Below w1.heap.size w1 w1.drew := below_drewN (Below.refl _ _) 1
  have C1 := (HC.out.below BW).below D0
  have DO1 := O1.below D0 O1.lt
  have HC1 := Lib.hid C1
  clear C1
  (refine wp_region_drift 7 (by kernel_rfl) (by kernel_rfl) ?_; simp only [List.take_succ_cons, List.take_zero, List.drop_succ_cons, List.drop_zero])
  (refine drift_step (fun K hK => ?_); refine drift_load (fun w' hw' => DO1.below hw' DO1.lt) Tryd.underlying25 rfl blk_size (by rw [b8_len]; exact HB.out.2) (by first | rfl | simp [Region.wanted, yielded]) rfl (by go_simp) ?_; go_simp; (with_reducible apply hK); clear hK K)
  (refine drift_step (fun K hK => ?_); refine drift_call (.agg (b8 b).toArray) 23 #[.agg (b8 b).toArray] (by first | rfl | simp [Region.wanted, yielded]) (fun w' => by go_simp) (fun w' hw' => (read_ok b HB.out.2 HB.out.1 w').mono (by rintro e w'' ⟨rfl, hb⟩; exact ⟨rfl, hb⟩)) ?_; go_simp; (with_reducible apply hK); clear hK K)
  (refine drift_step (fun K hK => ?_); refine drift_plain (.pointer (some ⟨c, 0, none⟩)) (by first | rfl | simp [Region.wanted, yielded]) (fun w' hw' => by go_simp) ?_; go_simp; (with_reducible apply hK); clear hK K)
  (refine drift_step (fun K hK => ?_); refine drift_plain (.pointer (some ⟨c, 0, none⟩)) (by first | rfl | simp [Region.wanted, yielded]) (fun w' hw' => by go_simp) ?_; go_simp; (with_reducible apply hK); clear hK K)
  (refine drift_step (fun K hK => ?_); refine drift_plain (.pointer (some ⟨c, 1, none⟩)) (by first | rfl | simp [Region.wanted, yielded]) (fun w' hw' => by go_simp) ?_; go_simp; (with_reducible apply hK); clear hK K)
  (refine drift_step (fun K hK => ?_); refine drift_plain (.slice (some ⟨bw, o, none⟩) n cap) (by first | rfl | simp [Region.wanted, yielded]) (fun w' hw' => by have e := (HC1.out.below hw').1.cell 1 _ rfl; go_simp; try simp [e]) ?_; go_simp; (with_reducible apply hK); clear hK K)
  (refine drift_step (fun K hK => ?_); refine drift_call (.agg (b8 (keyF b W)).toArray) 24 #[.agg (b8 b).toArray, .slice (some ⟨bw, o, none⟩) n cap] (by first | rfl | simp [Region.wanted, yielded]) (fun w' => by go_simp) (fun w' hw' => (key_ok b W _ HB.out.2 HB.out.1 LW16 HW.out w' (HC1.out.below hw').wat).mono (by rintro e w'' ⟨rfl, hb⟩; exact ⟨rfl, hb⟩)) ?_; go_simp; (with_reducible apply hK); clear hK K)
  refine drift_nil ?_
  refine driftT_alloc8 run_alloc_st (Rw.refl _) rfl rfl rfl (fun c5 v1 h1 k1 b1 => ?_)
  go_simp
  refine driftT_store8 (b := c5) (l := keyF b W) state_size h1 b1 rfl (key_len _ _) k1 rfl rfl rfl (by go_simp) (by go_simp) (fun v2 h2 b2 => ?_)
  refine driftT_nil (fun w3 h3 => ?_)
  have B13 : Below w1.heap.size w1 w3 := D0.trans (Below.mono (Rw.trans h2 h3) D0.size)
  have BW3 := BW.trans (B13.mono BW.size)
  have O23 := O2.below B13 O2.lt
  have O53 := b2.below h3 b2.lt
  have g5 : w.heap.size + 1 < c5 := by
    have := O2.lt
    have e : w1.heap.size ≤ c5 := k1
    omega
  have H3 := Lib.hid (And.intro O53 (And.intro O23 BW3))
  clear B13 BW3 O23 O53 h1 h2 h3 b1 b2 k1 D0 DO1 HC1 O1 O2 BW
  go_simp
  have C3 := (HC.out.below (H3.out.2.2)).1.cell 1 _ rfl
  go_wp2_with fail
  have hcap4 : 4 ≤ cap := by omega
  go_loopw [6] (fun v wr => ∃ k l cp off : Nat, v = .slice (some ⟨bw, off, none⟩) l cp ∧ off = o + 4 * (4 * (k + 1)) ∧ l + 4 * (k + 1) = n ∧ cp + 4 * (k + 1) = cap ∧ 4 ≤ l ∧ Hid (Blk wr c5 54 (b8 (st sbT W b k)) ∧ Blk wr (w.heap.size + 1) 25 (b8 z16) ∧ Below w.heap.size w wr)) (fun v _ => slLen v)
  case atStart => exact ⟨0, n - 4, cap - 4, o + 16, rfl, by omega, by omega, by omega, by omega, H3.out⟩
  case round =>
    obtain ⟨k, l, cp, off, rfl, ho, hl, hcp, hl4, hh⟩ := hrel
    have HO := Lib.hid ho
    clear C3 H3 ho
    obtain ⟨O5, O2, BW⟩ := hh.out
    have D1 : Below wr.heap.size wr wr.drew := below_drewN (Below.refl _ _) 1
    have CW := HC.out.below BW
    have HCW := Lib.hid CW
    have S5 := Lib.hid (O5.below D1 O5.lt)
    have CD := Lib.hid (CW.below D1)
    have LS : Hid ((st sbT W b k).length = 16) := st_len _ _ _ _
    have BS : Hid (By (st sbT W b k)) := st_by HW.out HB.out.1 k
    have hcell : ∀ w', Below wr.drew.heap.size wr.drew w' → ∀ x, x < 256 → w'.cell? ⟨t, 0 + x, none⟩ = some (.int .u8 (sbT.getD x 0 : Nat)) := fun w' hw' x hx => by rw [Nat.zero_add]; exact (CD.out.below hw').2.1.sb hx
    have HCE := Lib.hid hcell
    have BSB : By sbT := by
      rw [← ml_eta (n := 256) (l := sbT) sbT_len]
      exact By.ml fun i hi => sb_lt hi
    have HBS := Lib.hid BSB
    clear CW hcell O5 O2 BW BSB
    go_upto_region 4 with fail
    (refine wp_region_quiet_tail (C := fun w' => Below wr.drew.heap.size wr.drew w') 8 (by kernel_rfl) (by kernel_rfl) (Below.refl _ _) ?_; simp only [List.take_succ_cons, List.take_zero, List.drop_succ_cons, List.drop_zero])
    ((with_reducible refine wpQuiet_step (fun K hK => ?_)); refine quiet_loadB (fun w' hw' => S5.out.below hw' S5.out.lt) Tryd.underlying54 rfl state_size (by rw [b8_len]; exact LS.out) (by first | rfl | simp [Region.wanted, yielded]) rfl (by go_simp) ?_; go_simp; (with_reducible apply hK); clear hK K)
    ((with_reducible refine wpQuiet_step (fun K hK => ?_)); refine quiet_plainG (.pointer (some ⟨c, 0, none⟩)) (by first | rfl | simp [Region.wanted, yielded]) (fun w' hw' => by go_simp) ?_; go_simp; (with_reducible apply hK); clear hK K)
    ((with_reducible refine wpQuiet_step (fun K hK => ?_)); refine quiet_plainG (.pointer (some ⟨c, 0, none⟩)) (by first | rfl | simp [Region.wanted, yielded]) (fun w' hw' => by go_simp) ?_; go_simp; (with_reducible apply hK); clear hK K)
    ((with_reducible refine wpQuiet_step (fun K hK => ?_)); refine quiet_plainG (.pointer (some ⟨c, 0, none⟩)) (by first | rfl | simp [Region.wanted, yielded]) (fun w' hw' => by go_simp) ?_; go_simp; (with_reducible apply hK); clear hK K)
    ((with_reducible refine wpQuiet_step (fun K hK => ?_)); refine quiet_plainG (.pointer (some ⟨t, 0, none⟩)) (by first | rfl | simp [Region.wanted, yielded]) (fun w' hw' => by have e := (CD.out.below hw').1.cell 0 _ rfl; go_simp; try simp [e]) ?_; go_simp; (with_reducible apply hK); clear hK K)
    ((with_reducible refine wpQuiet_step (fun K hK => ?_)); refine quiet_plainG (.pointer (some ⟨t, 0, none⟩)) (by first | rfl | simp [Region.wanted, yielded]) (fun w' hw' => by go_simp) ?_; go_simp; (with_reducible apply hK); clear hK K)
    ((with_reducible refine wpQuiet_step (fun K hK => ?_)); refine quiet_plainG (.pointer (some ⟨t, 0, none⟩)) (by first | rfl | simp [Region.wanted, yielded]) (fun w' hw' => by go_simp) ?_; go_simp; (with_reducible apply hK); clear hK K)
    ((with_reducible refine wpQuiet_step (fun K hK => ?_)); refine quiet_callG (.agg (b8 (shF sbT 1 (st sbT W b k))).toArray) 25 #[.agg (b8 (st sbT W b k)).toArray, .pointer (some ⟨t, 0, none⟩), .int .i64 1] (by first | rfl | simp [Region.wanted, yielded]) (fun w' => by go_simp) (fun w' hw' => (shift1_ok (st sbT W b k) sbT t 0 LS.out BS.out HBS.out w' (HCE.out w' hw')).mono (by rintro e w'' ⟨rfl, hb⟩; exact ⟨rfl, hw'.trans (hb.mono hw'.size)⟩)) ?_; go_simp; (with_reducible apply hK); clear hK K)
    refine wpQuiet_nil ?_
    intro w5 hw5
    have B5 := D1.trans hw5
    have S55 := Lib.hid (S5.out.below hw5 S5.out.lt)
    have O25 := hh.out.2.1.below B5 hh.out.2.1.lt
    have BW5 := hh.out.2.2.trans (B5.mono hh.out.2.2.size)
    have LS1 : Hid ((b8 (shF sbT 1 (st sbT W b k))).length = 16) := by rw [b8_len]; exact ml_len _ _
    have LS0 : Hid ((b8 (st sbT W b k)).length = 16) := by rw [b8_len]; exact LS.out
    have H5 := Lib.hid (And.intro (S55.out.setRow (b8 (shF sbT 1 (st sbT W b k)))) (And.intro (O25.farRow (show w.heap.size + 1 ≠ c5 by omega) (b8 (shF sbT 1 (st sbT W b k))).toArray) (below_row BW5 c5 (b8 (shF sbT 1 (st sbT W b k))).toArray (by omega))))
    clear B5 O25 BW5 hw5 D1 S5 CD HCE hh HCW
    go_upto_region 5 with (refine store_blk S55.out state_size LS1.out LS0.out (b8_one _) rfl rfl rfl rfl ?_)
    generalize hw6 : World.setRow w5 c5 _ = w6 at *
    clear hw6 S55
    have BS1 : Hid (By (shF sbT 1 (st sbT W b k))) := sh_by BS.out 1
    have hend : k + 1 ≤ r := by have := HR.out; omega
    have HWT : WAt w6 (.slice (some ⟨bw, off, none⟩) l cp) (W.drop (4 * (4 * (k + 1)))) := by
      rw [HO.out]; exact (HC.out.below H5.out.2.2).at (by omega) (by omega)
    have HWT2 := Lib.hid HWT
    have LWD : Hid (16 ≤ (W.drop (4 * (4 * (k + 1)))).length) := by rw [List.length_drop]; show 16 ≤ _; omega
    have HWD : Hid (By (W.drop (4 * (4 * (k + 1))))) := HW.out.drop _
    clear HWT
    rcases Nat.lt_or_ge 4 l with h4 | h4
    · obtain ⟨S, hS⟩ : ∃ S, S = shF sbT 1 (st sbT W b k) := ⟨_, rfl⟩
      obtain ⟨V, hV⟩ : ∃ V, V = W.drop (4 * (4 * (k + 1))) := ⟨_, rfl⟩
      have hblk : keyF (mixF m2 S) V = st sbT W b (k + 1) := by
        rw [hS, hV, show 4 * (4 * (k + 1)) = 16 * (k + 1) by omega, st]
      have LSS : Hid (S.length = 16) := by rw [hS]; exact ml_len _ _
      rw [← hS] at LS1 BS1 H5
      rw [← hV] at HWT2 LWD HWD
      rw [← hS]
      have HBK := Lib.hid hblk
      clear hblk hS hV
      go_wp2_with (refine load_blk H5.out.1 Tryd.underlying54 rfl state_size LS1.out rfl rfl rfl ?_)
      refine (mix_ok m2 S rfl (by intro x hx; simp only [m2, List.mem_cons, List.not_mem_nil, or_false] at hx; omega) LSS.out BS1.out _).mono ?_
      rintro e w7 ⟨rfl, h7⟩
      have H7 := Lib.hid (And.intro (H5.out.1.below h7 H5.out.1.lt) (And.intro (H5.out.2.1.below h7 H5.out.2.1.lt) (H5.out.2.2.trans (h7.mono H5.out.2.2.size))))
      have HWT7 := Lib.hid (HWT2.out.below h7)
      have BM : Hid (By (mixF m2 S)) := m2_by BS1.out
      clear h7 H5 HWT2
      go_wp2_with fail
      refine (key_ok (mixF m2 S) V _ (ml_len _ _) BM.out LWD.out HWD.out _ HWT7.out).mono ?_
      rintro e w8 ⟨rfl, h8⟩
      have H8 := Lib.hid (And.intro (H7.out.1.below h8 H7.out.1.lt) (And.intro (H7.out.2.1.below h8 H7.out.2.1.lt) (H7.out.2.2.trans (h8.mono H7.out.2.2.size))))
      rw [HBK.out]
      have LQ : Hid ((b8 (st sbT W b (k + 1))).length = 16) := by rw [b8_len]; exact st_len _ _ _ _
      have H9 := Lib.hid (And.intro (H8.out.1.setRow (b8 (st sbT W b (k + 1)))) (And.intro (H8.out.2.1.farRow (show w.heap.size + 1 ≠ c5 by omega) (b8 (st sbT W b (k + 1))).toArray) (below_row H8.out.2.2 c5 (b8 (st sbT W b (k + 1))).toArray (by omega))))
      clear h8 H7 HWT7
      go_wp2_with (refine store_blk H8.out.1 state_size LQ.out LS1.out (b8_one _) rfl rfl rfl rfl ?_)
      go_roundw
      case rel => exact ⟨k + 1, l - 4, cp - 4, off + 16, rfl, by have := HO.out; omega, by omega, by omega, by have := HR.out; omega, H9.out⟩
      case measure => simp only [slLen]; omega
    · obtain rfl : l = 4 := by omega
      have hkr : 4 * (4 * (k + 1)) = 16 * r ∧ k = r - 1 := by have := HR.out; omega
      have HKR := Lib.hid hkr
      clear hkr
      obtain ⟨S, hS⟩ : ∃ S, S = shF sbT 1 (st sbT W b k) := ⟨_, rfl⟩
      obtain ⟨V, hV⟩ : ∃ V, V = W.drop (4 * (4 * (k + 1))) := ⟨_, rfl⟩
      have hblk : keyF S V = block sbT W r b := by unfold block; rw [hS, hV, HKR.out.1, ← HKR.out.2]
      have LSS : Hid (S.length = 16) := by rw [hS]; exact ml_len _ _
      rw [← hS] at LS1 BS1 H5
      rw [← hV] at HWT2 LWD HWD
      rw [← hS]
      have HBK := Lib.hid hblk
      clear hblk hS hV
      go_wp2_with (refine load_blk H5.out.1 Tryd.underlying54 rfl state_size LS1.out rfl rfl rfl ?_)
      refine (key_ok S V _ LSS.out BS1.out LWD.out HWD.out _ HWT2.out).mono ?_
      rintro e w7 ⟨rfl, h7⟩
      have R7 := Lib.hid (H5.out.2.1.below h7 H5.out.2.1.lt)
      have BW7 := Lib.hid (H5.out.2.2.trans (h7.mono H5.out.2.2.size))
      rw [HBK.out]
      have HBB : Hid (By (block sbT W r b)) := block_by HW.out HB.out.1 r
      have HBL : Hid ((b8 (block sbT W r b)).length = 16) := by rw [b8_len]; exact block_len _ _ _ _
      clear h7 H5 HWT2
      go_wp2_with fail
      refine (bytes_ok _ (block_len _ _ _ _) HBB.out _).mono ?_
      rintro e w8 ⟨rfl, h8⟩
      have R8 := Lib.hid (R7.out.below h8 R7.out.lt)
      have BW8 := Lib.hid (BW7.out.trans (h8.mono BW7.out.size))
      clear h8 R7 BW7
      go_wp2_with (refine store_blk R8.out blk_size HBL.out rfl (b8_one _) rfl rfl rfl rfl ?_)
      exact ret_blk rfl (Blk.setRow R8.out _) Tryd.underlying25 rfl blk_size HBL.out rfl rfl ⟨rfl, below_row BW8.out _ _ (by omega)⟩
end Go.Proofs.YteleedcpepifjaaDoor
