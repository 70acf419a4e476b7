/-
The walk of key: a state xored with four words.
-/
import Derived.Test.YteleedcpepifjaaDoorAesX
import Derived.Test.YteleedcpepifjaaDoorQT
namespace Go.Proofs.YteleedcpepifjaaDoor
open Go.RowKit AesP
set_option maxRecDepth 100000
theorem quiet_loadR {P : Program} {ops : Array Oper} {C : World → Prop} {a : Act} {o : Oper} {K : Act → Prop} {b off ty : Nat} {d : TypeDesc} {x : Operand} {cs : List Value} (hb : ∀ w, C w → w.rangeAt b off cs)
    (hu : P.underlying ty = some d) (hd : d.isRow = true) (hi : (P.info? ty).map (·.size) = some cs.length) (hg : Region.wanted o (yielded ops a.tmps) = true) (ho : o.op = .load ty x) (hx : a.eval x = .pointer (some ⟨b, off, none⟩))
    (h : K (a.put o.dst (.agg cs.toArray))) : if Region.wanted o (yielded ops a.tmps) then o.quiet P a C K else K (a.put o.dst undef) :=
  quiet_plainG (.agg cs.toArray) hg (fun w hw => by
    unfold execOp
    simp only [ho, hx, Instr.loadAt, Instr.sureAddr, Sem.run_bind, Sem.run_pure, Result.andThen_ok, run_loadVar_mid w b off ty cs d (hb w hw) hu hd hi]) h
def quad (L : List Nat) (k : Nat) : List Nat := [L.getD k 0, L.getD (k + 1) 0, L.getD (k + 2) 0, L.getD (k + 3) 0]
theorem quad_len (L : List Nat) (k : Nat) : (quad L k).length = 4 := rfl
theorem quad_by {L : List Nat} (h : By L) (k : Nat) : By (quad L k) := fun x hx => by
  simp only [quad, List.mem_cons, List.not_mem_nil, or_false] at hx
  rcases hx with rfl | rfl | rfl | rfl <;> exact h.get _
theorem quad_range {w : World} {b o k : Nat} {L : List Nat} (h : ∀ j, j < 4 → w.cell? ⟨b, o + j, none⟩ = some (.int .u8 (L.getD (k + j) 0 : Nat))) : w.rangeAt b o (b8 (quad L k)) := fun j v hv => by
  match j, hv with
  | 0, hv => rw [h 0 (by omega)]; exact hv
  | 1, hv => rw [h 1 (by omega)]; exact hv
  | 2, hv => rw [h 2 (by omega)]; exact hv
  | 3, hv => rw [h 3 (by omega)]; exact hv
  | j + 4, hv => simp [b8, quad] at hv
theorem xw_quad (a b : List Nat) (k : Nat) : xw (quad a k) (quad b k) = [a.getD k 0 ^^^ b.getD k 0, a.getD (k + 1) 0 ^^^ b.getD (k + 1) 0, a.getD (k + 2) 0 ^^^ b.getD (k + 2) 0, a.getD (k + 3) 0 ^^^ b.getD (k + 3) 0] := rfl
theorem Blk.quad {w : World} {b : Nat} {t : TypeId} {F G : Nat → Nat} {k : Nat} (h : Blk w b t (b8 (bl F G k 16))) : Blk (w.setCells b k (b8 [F k, F (k + 1), F (k + 2), F (k + 3)])) b t (b8 (bl F G (k + 4) 16)) := by
  have h1 := h.b8set k (F k)
  rw [bl_set] at h1
  have h2 := h1.b8set (k + 1) (F (k + 1))
  rw [bl_set] at h2
  have h3 := h2.b8set (k + 2) (F (k + 2))
  rw [bl_set] at h3
  have h4 := h3.b8set (k + 3) (F (k + 3))
  rw [bl_set] at h4
  exact h4
theorem Blk.cellsFar {b c : Nat} {t : TypeId} {cs : List Value} (hne : b ≠ c) : ∀ (vs : List Value) (o : Nat) (w : World), Blk w b t cs → Blk (w.setCells c o vs) b t cs
  | [], _, _, h => h
  | v :: r, o, w, h => Blk.cellsFar hne r (o + 1) _ (h.far hne o v)
theorem below_cells {B c : Nat} {w0 : World} (hc : B ≤ c) : ∀ (vs : List Value) (o : Nat) (w : World), Below B w0 w → Below B w0 (w.setCells c o vs)
  | [], _, _, h => h
  | v :: r, o, w, h => below_cells hc r (o + 1) _ (below_set' h c o v hc)
theorem Keeps.cells {F : Nat → Prop} {a : World} {c : Nat} (hc : c < a.heap.size → F c) : ∀ (vs : List Value) (o : Nat) (w : World), Keeps F a w → Keeps F a (w.setCells c o vs)
  | [], _, _, h => h
  | v :: r, o, w, h => Keeps.cells hc r (o + 1) _ (h.set c o v hc)
theorem Blk.there {w : World} {b : Nat} {t : TypeId} {l : List Nat} (h : Blk w b t (b8 l)) {o n : Nat} (hn : o + n ≤ l.length) : w.there b o n := fun j hj => ⟨by rw [h.b8cell (o + j) (by omega)]; rfl, h.free _⟩
/-- a slice of words that reads as bytes -/
def WAt (w : World) (v : Value) (W : List Nat) : Prop := ∃ b o n cap, v = .slice (some ⟨b, o, none⟩) n cap ∧ W.length = 4 * n ∧ n ≤ cap ∧ ∀ j, j < W.length → w.cell? ⟨b, o + j, none⟩ = some (.int .u8 (W.getD j 0 : Nat))
theorem WAt.below {w w' : World} {v : Value} {W : List Nat} (h : WAt w v W) (hb : Below w.heap.size w w') : WAt w' v W := by
  obtain ⟨b, o, n, cap, h1, h2, h3, h4⟩ := h
  exact ⟨b, o, n, cap, h1, h2, h3, fun j hj => (hb.cell (cell_lt8 (h4 j hj))).trans (h4 j hj)⟩
def keyX (a W : List Nat) (i : Nat) : Nat := a.getD i 0 ^^^ W.getD i 0
set_option maxHeartbeats 8000000 in
theorem key_ok (a W : List Nat) (v : Value) (la : a.length = 16) (ha : By a) (lW : 16 ≤ W.length) (hW : By W) (w : World) (hv : WAt w v W) :
    Calls Tryd.prog 24 #[.agg (b8 a).toArray, v] w fun e w' => e = .returned (.agg (b8 (keyF a W)).toArray) ∧ Below w.heap.size w w' := by
  obtain ⟨b, o, n, cap, rfl, hn, hcap, hcell⟩ := hv
  have hn4 : 4 ≤ n := by omega
  have HA := Lib.hid (And.intro ha la)
  have HW := Lib.hid (And.intro hW lW)
  have HC := Lib.hid hcell
  clear ha la hW lW hcell hn
  go_enter Tryd.func24, Tryd.ntmps24
  go_upto_region 1 with fail
  refine wp_gen (fun wx => Blk wx w.heap.size 54 (b8 a) ∧ Blk wx (w.heap.size + 1) 54 (b8 z16) ∧ Below w.heap.size w wx) ⟨(Blk.new w _ (b8 a)).alloc _, Blk.new2 _ _ _ (b8 z16), below2 _ _ _⟩ ?_
  intro w1 H1
  have H2 := Lib.hid H1
  clear H1
  go_wp2_with fail
  go_loopw [6] (fun v wr => ∃ c : Nat, v = .int .i64 c ∧ c ≤ 4 ∧ Hid (Blk wr w.heap.size 54 (b8 (bl (keyX a W) (fun i => a.getD i 0) (4 * c) 16)) ∧ Blk wr (w.heap.size + 1) 54 (b8 z16) ∧ Below w.heap.size w wr)) (fun v _ => 4 - (intOf v).toNat)
  case atStart => exact ⟨0, rfl, by omega, by rw [bl_zero, ml_eta HA.out.2]; exact H2.out⟩
  case round =>
    obtain ⟨c, rfl, hc, hr⟩ := hrel
    clear H2
    rcases Nat.lt_or_ge c 4 with h | h
    · obtain ⟨O1, O2, BW⟩ := hr.out
      have hcw : ∀ j, j < 4 → 4 * c + j < W.length := fun j hj => by have := HW.out.2; omega
      go_upto_region 4 with fail
      have R1 : ∀ w', Below wr.drew.heap.size wr.drew w' → w'.rangeAt w.heap.size (c * 4) (b8 (quad a (4 * c))) := fun w' hw' => quad_range fun j hj => by
        have e := (O1.below ((below_drewN (Below.refl _ _) 1).trans hw') O1.lt).b8cell (c * 4 + j) (by rw [bl_len]; omega)
        rw [bl_old _ _ (by omega) (by omega)] at e
        rw [e, show c * 4 + j = 4 * c + j by omega]
      have R2 : ∀ w', Below wr.drew.heap.size wr.drew w' → w'.rangeAt b (o + c * 4) (b8 (quad W (4 * c))) := fun w' hw' => quad_range fun j hj => by
        have e0 := HC.out (4 * c + j) (hcw j hj)
        have e1 := (BW.cell (cell_lt8 e0)).trans e0
        have e := (((below_drewN (Below.refl _ _) 1).trans hw').cell (cell_lt8 e1)).trans e1
        rw [← e, show o + c * 4 + j = o + (4 * c + j) by omega]
      have hX : xw (quad a (4 * c)) (quad W (4 * c)) = [keyX a W (4 * c), keyX a W (4 * c + 1), keyX a W (4 * c + 2), keyX a W (4 * c + 3)] := xw_quad _ _ _
      have CX := fun w' => wxor_ok _ _ (quad_len _ _) (quad_len _ _) (quad_by HA.out.1 (4 * c)) (quad_by HW.out.1 (4 * c)) w'
      obtain ⟨X, hXX⟩ : ∃ X, X = xw (quad a (4 * c)) (quad W (4 * c)) := ⟨_, rfl⟩
      rw [← hXX] at hX
      rw [← hXX] at CX
      have HX := Lib.hid hX
      have LX : (b8 X).length = 4 := by rw [hX]; rfl
      have HLX := Lib.hid LX
      have HCX := Lib.hid CX
      clear hXX hX LX CX
      have HR := Lib.hid (And.intro R1 R2)
      clear R1 R2 hcw
      (refine wp_region_quiet_tail (C := fun w' => Below wr.drew.heap.size wr.drew w') 10 (by kernel_rfl) (by kernel_rfl) (Below.refl _ _) ?_; simp only [List.take_succ_cons, List.take_zero, List.drop_succ_cons, List.drop_zero])
      ((with_reducible refine wpQuiet_step (fun K hK => ?_)); refine quiet_plainG (.int .i64 c) (by first | rfl | simp [Region.wanted, yielded]) (fun w' hw' => by go_simp) ?_; go_simp; (with_reducible apply hK); clear hK K)
      ((with_reducible refine wpQuiet_step (fun K hK => ?_)); refine quiet_plainG (.int .i64 c) (by first | rfl | simp [Region.wanted, yielded]) (fun w' hw' => by go_simp) ?_; go_simp; (with_reducible apply hK); clear hK K)
      ((with_reducible refine wpQuiet_step (fun K hK => ?_)); refine quiet_plainG (.pointer (some ⟨w.heap.size, c * 4, none⟩)) (by first | rfl | simp [Region.wanted, yielded]) (fun w' hw' => by go_simp) ?_; go_simp; (with_reducible apply hK); clear hK K)
      ((with_reducible refine wpQuiet_step (fun K hK => ?_)); refine quiet_loadR (cs := b8 (quad a (4 * c))) HR.out.1 Tryd.underlying50 rfl word_size (by first | rfl | simp [Region.wanted, yielded]) rfl (by go_simp) ?_; go_simp; (with_reducible apply hK); clear hK K)
      ((with_reducible refine wpQuiet_step (fun K hK => ?_)); refine quiet_plainG (.slice (some ⟨b, o, none⟩) n cap) (by first | rfl | simp [Region.wanted, yielded]) (fun w' hw' => by go_simp) ?_; go_simp; (with_reducible apply hK); clear hK K)
      ((with_reducible refine wpQuiet_step (fun K hK => ?_)); refine quiet_plainG (.int .i64 c) (by first | rfl | simp [Region.wanted, yielded]) (fun w' hw' => by go_simp) ?_; go_simp; (with_reducible apply hK); clear hK K)
      ((with_reducible refine wpQuiet_step (fun K hK => ?_)); refine quiet_plainG (.pointer (some ⟨b, o + c * 4, none⟩)) (by first | rfl | simp [Region.wanted, yielded]) (fun w' hw' => by go_simp; try (intro hh; omega)) ?_; go_simp; (with_reducible apply hK); clear hK K)
      ((with_reducible refine wpQuiet_step (fun K hK => ?_)); refine quiet_loadR (cs := b8 (quad W (4 * c))) HR.out.2 Tryd.underlying50 rfl word_size (by first | rfl | simp [Region.wanted, yielded]) rfl (by go_simp) ?_; go_simp; (with_reducible apply hK); clear hK K)
      ((with_reducible refine wpQuiet_step (fun K hK => ?_)); refine quiet_callG (.agg (b8 X).toArray) 22 #[.agg (b8 (quad a (4 * c))).toArray, .agg (b8 (quad W (4 * c))).toArray] (by first | rfl | simp [Region.wanted, yielded]) (fun w' => by go_simp) (fun w' hw' => (HCX.out w').mono (by rintro e w'' ⟨rfl, hb⟩; exact ⟨rfl, hw'.trans (hb.mono hw'.size)⟩)) ?_; go_simp; (with_reducible apply hK); clear hK K)
      ((with_reducible refine wpQuiet_step (fun K hK => ?_)); refine quiet_plainG (.pointer (some ⟨w.heap.size, c * 4, none⟩)) (by first | rfl | simp [Region.wanted, yielded]) (fun w' hw' => by go_simp) ?_; go_simp; (with_reducible apply hK); clear hK K)
      refine wpQuiet_nil ?_
      intro w5 hw5
      have B5 := (below_drewN (Below.refl wr.heap.size wr) 1).trans hw5
      have O15 := O1.below B5 O1.lt
      have O25 := O2.below B5 O2.lt
      have BW5 := BW.trans (B5.mono BW.size)
      have S5 : Blk (w5.setCells w.heap.size (c * 4) (b8 X)) w.heap.size 54 (b8 (bl (keyX a W) (fun i => a.getD i 0) (4 * (c + 1)) 16)) := by
        have e := Blk.quad O15
        rw [← HX.out] at e
        rw [show c * 4 = 4 * c by omega]
        exact e
      have HS := Lib.hid (And.intro S5 (And.intro (Blk.cellsFar (show w.heap.size + 1 ≠ w.heap.size by omega) (b8 X) (c * 4) w5 O25) (below_cells (Nat.le_refl w.heap.size) (b8 X) (c * 4) w5 BW5)))
      have TH : w5.there w.heap.size (c * 4) (b8 X).toArray.size := by
        have e : (b8 X).toArray.size = 4 := by simpa using HLX.out
        rw [e]
        exact O15.there (by rw [bl_len]; omega)
      have HTH := Lib.hid TH
      have HSZ : Hid ((Tryd.prog.info? 50).map (·.size) = some (b8 X).toArray.size) := by
        have e : (b8 X).toArray.size = 4 := by simpa using HLX.out
        rw [e]; exact word_size
      clear S5 O15 O25 BW5 TH B5 hw5 O1 O2 BW HR
      refine wpList_store_mid rfl 50 _ _ rfl w.heap.size (c * 4) (b8 X).toArray rfl rfl HTH.out HSZ.out (all_oneCell_toArray (b8_one _)) ?_
      generalize hw6 : World.setCells w5 _ _ _ = w6
      have HS6 : Hid (Blk w6 w.heap.size 54 (b8 (bl (keyX a W) (fun i => a.getD i 0) (4 * (c + 1)) 16)) ∧ Blk w6 (w.heap.size + 1) 54 (b8 z16) ∧ Below w.heap.size w w6) := by rw [← hw6]; exact HS
      clear hw6 HS HTH
      go_wp2_with fail
      go_roundw
      case rel => exact ⟨c + 1, by go_num, by omega, HS6.out⟩
      case measure => simp [intOf]; omega
    · have h4 : c = 4 := by omega
      rw [h4, show 4 * 4 = 16 by rfl, bl_full] at hr
      clear h4
      have LX : Hid ((b8 (keyF a W)).length = 16) := by rw [b8_len]; exact ml_len _ _
      go_wp2_with (first | refine load_blk hr.out.1 Tryd.underlying54 rfl state_size LX.out rfl rfl rfl ?_ | refine store_blk hr.out.2.1 state_size LX.out rfl (b8_one _) rfl rfl rfl rfl ?_)
      exact ret_blk rfl (Blk.setRow hr.out.2.1 _) Tryd.underlying54 rfl state_size LX.out rfl rfl ⟨rfl, below_row hr.out.2.2 _ _ (by omega)⟩
end Go.Proofs.YteleedcpepifjaaDoor
