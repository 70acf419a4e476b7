/-
The document's Xor.
-/
import Derived.Test.YteleedcpepifjaaDoorAesF
namespace Go.Proofs.YteleedcpepifjaaDoor
open Go.RowKit AesP
set_option maxRecDepth 100000
def incN : Nat → List Nat → List Nat
  | 0, c => c
  | k + 1, c => inc 16 (incN k c)
theorem incN_len {c : List Nat} (h : c.length = 16) : ∀ k, (incN k c).length = 16
  | 0 => h
  | k + 1 => by show (inc 16 (incN k c)).length = 16; rw [inc_len]; exact incN_len h k
theorem incN_by {c : List Nat} (h : By c) : ∀ k, By (incN k c)
  | 0 => h
  | k + 1 => inc_by 16 _ (incN_by h k)
theorem incN_next (c : List Nat) : ∀ k, incN k (inc 16 c) = incN (k + 1) c
  | 0 => rfl
  | k + 1 => by show inc 16 (incN k (inc 16 c)) = _; rw [incN_next c k]; rfl
/-- byte j of a stream -/
def strm (W : List Nat) (r : Nat) (C : List Nat) (j : Nat) : Nat := (block sbT W r (incN (j / 16) C)).getD (j % 16) 0
def xorL (W : List Nat) (r : Nat) (C s : List Nat) : List Nat := ml s.length fun j => s.getD j 0 ^^^ strm W r C j
theorem strm_lt {W C : List Nat} (hW : By W) (hC : By C) (r j : Nat) : strm W r C j < 256 := (block_by hW (incN_by hC _) r).get _
theorem xorL_by {W C s : List Nat} (hW : By W) (hC : By C) (hs : By s) (r : Nat) : By (xorL W r C s) := By.ml fun j _ => xor_lt (hs.get j) (strm_lt hW hC r j)
theorem xorL_len (W : List Nat) (r : Nat) (C s : List Nat) : (xorL W r C s).length = s.length := ml_len ..
theorem xorL_xorL (W : List Nat) (r : Nat) (C s : List Nat) : xorL W r C (xorL W r C s) = s := by
  have e : xorL W r C (xorL W r C s) = ml s.length fun j => s.getD j 0 := by
    unfold xorL
    rw [ml_len]
    refine ml_congr fun j hj => ?_
    rw [ml_get _ hj, Nat.xor_assoc, Nat.xor_self, Nat.xor_zero]
  rw [e]
  exact ml_eta rfl
theorem ml_append (a b : Nat) (F : Nat → Nat) : ml a F ++ ml b (fun j => F (a + j)) = ml (a + b) F := by
  unfold ml
  rw [List.range_add, List.map_append, List.map_map]
  rfl
theorem strm_next (W : List Nat) (r : Nat) (C : List Nat) (j : Nat) : strm W r (inc 16 C) j = strm W r C (16 + j) := by
  unfold strm
  rw [incN_next, show (16 + j) / 16 = j / 16 + 1 by omega, show (16 + j) % 16 = j % 16 by omega]
/-- the stream of the next number is the stream behind its first block -/
theorem xorL_parts (W : List Nat) (r : Nat) (C L : List Nat) : xorL W r C (L.take (min 16 L.length)) ++ xorL W r (inc 16 C) (L.drop (min 16 L.length)) = xorL W r C L := by
  rcases Nat.lt_or_ge 16 L.length with h | h
  · rw [Nat.min_eq_left (Nat.le_of_lt h)]
    have e1 : xorL W r C (L.take 16) = ml 16 fun j => L.getD j 0 ^^^ strm W r C j := by
      unfold xorL
      rw [List.length_take, Nat.min_eq_left (Nat.le_of_lt h)]
      refine ml_congr fun j hj => ?_
      rw [List.getD_eq_getElem?_getD, List.getD_eq_getElem?_getD, List.getElem?_take_of_lt hj]
    have e2 : xorL W r (inc 16 C) (L.drop 16) = ml (L.length - 16) fun j => L.getD (16 + j) 0 ^^^ strm W r C (16 + j) := by
      unfold xorL
      rw [List.length_drop]
      refine ml_congr fun j hj => ?_
      rw [drop_get, strm_next]
    rw [e1, e2]
    have e3 := ml_append 16 (L.length - 16) (fun j => L.getD j 0 ^^^ strm W r C j)
    rw [show 16 + (L.length - 16) = L.length by omega] at e3
    exact e3
  · rw [Nat.min_eq_right h, List.take_length, List.drop_length]
    exact List.append_nil _
set_option maxHeartbeats 4000000 in
theorem xref_ok {l C : List Nat} (hl : l.length = 32) (hlb : By l) (x : Int) (hC : C.length = 16) (hCb : By C) (s : ByteArray) (hs : s.size ≤ 1000) (w : World) :
    Calls Tryd.prog 16 #[.string (bsL (l.take (ks x))), .string (bsL C), .string s] w fun e w' => e = .returned (.string (bsL (xorL (kW l x) (kn x + 6) C (natL s)))) ∧ Below w.heap.size w w' := by
  obtain ⟨j0, hj, hj0, hj1, hj2⟩ := u8I
  have J := Lib.hid hj
  have J0 := Lib.hid hj0
  have J1 := Lib.hid hj1
  have J2 := Lib.hid hj2
  clear hj hj0 hj1 hj2
  have HL := Lib.hid (And.intro hl hlb)
  have HC := Lib.hid (And.intro hC hCb)
  have hE : ∀ k w', Calls Tryd.prog 12 #[.string (bsL (l.take (ks x))), .string (bsL (incN k C))] w' fun e w'' => e = .returned (.string (bsL (block sbT (kW l x) (kn x + 6) (incN k C)))) ∧ Below w'.heap.size w' w'' := fun k w' => refk hl hlb x (incN_len hC k) (incN_by hCb k) w'
  have hN : ∀ k w', Calls Tryd.prog 31 #[.string (bsL (incN k C))] w' fun e w'' => e = .returned (.string (bsL (incN (k + 1) C))) ∧ Below w'.heap.size w' w'' := fun k w' => by
    have h := next_ok (bsL (incN k C)) (by rw [bsL_len]; exact incN_len hC k) w'
    rw [natL_bsL (incN_by hCb k)] at h
    exact h
  have HE := Lib.hid hE
  have HN := Lib.hid hN
  have hst : ∀ j, strm (kW l x) (kn x + 6) C j < 256 := fun j => strm_lt (kW_by hlb x) hCb _ j
  have HST := Lib.hid hst
  have hbl : ∀ k, (block sbT (kW l x) (kn x + 6) (incN k C)).length = 16 := fun k => block_len _ _ _ _
  have HBL := Lib.hid hbl
  have hbb : ∀ k, By (block sbT (kW l x) (kn x + 6) (incN k C)) := fun k => block_by (kW_by hlb x) (incN_by hCb k) _
  have HBB := Lib.hid hbb
  have H0 : Hid (IB w (w.alloc (.cells #[] 5)) (.slice (some ⟨w.heap.size, 0, none⟩) 0 0) (ml 0 fun j => (natL s).getD j 0 ^^^ strm (kW l x) (kn x + 6) C j)) := Lib.hid ⟨sg_empty _ _, fun g hg => by simp [vblk] at hg, below1 _ _⟩
  obtain ⟨K, hK⟩ : ∃ K, K = bsL (l.take (ks x)) := ⟨_, rfl⟩
  rw [← hK] at HE ⊢
  clear hl hlb hC hCb hE hN hst hbl hbb hK
  rw [show bsL C = bsL (incN 0 C) from rfl]
  go_enter Tryd.func16, Tryd.ntmps16
  go_wp2_with fail
  go_loopw [1, 7, 8, 9] (fun v1 v7 v8 v9 wx => ∃ i : Nat, v1 = .string (bsL (incN ((i + 15) / 16) C)) ∧ v9 = .int .i64 i ∧ i ≤ s.size ∧ Hid (i % 16 ≠ 0 → v8 = .string (bsL (block sbT (kW l x) (kn x + 6) (incN (i / 16) C)))) ∧ Hid (IB w wx v7 (ml i fun j => (natL s).getD j 0 ^^^ strm (kW l x) (kn x + 6) C j))) (fun _ _ _ v _ => 2000 - (intOf v).toNat)
  case atStart => exact ⟨0, rfl, rfl, by omega, Lib.hid (fun h => absurd rfl h), H0⟩
  case round =>
    obtain ⟨i, rfl, rfl, hi, h8, hr⟩ := hrel
    clear H0
    rcases Nat.lt_or_ge i s.size with h | h
    · go_upto_if 19 with fail
      go_cut [1, 8] (fun v1 v8 wx => v1 = .string (bsL (incN (i / 16 + 1) C)) ∧ v8 = .string (bsL (block sbT (kW l x) (kn x + 6) (incN (i / 16) C))) ∧ Hid (Below wr.heap.size wr wx))
      case first =>
        rcases Nat.eq_zero_or_pos (i % 16) with hz | hz
        · have d : ((i : Int) % 16 == 0) = true := by rw [beq_iff_eq]; omega
          have e15 : (i + 15) / 16 = i / 16 := by omega
          rw [e15]
          clear hz e15
          go_wp2_with (first | (go_at_call 12; refine (HE.out _ _).mono ?_; rintro e w1 ⟨rfl, hb1⟩) | (go_at_call 31; refine (HN.out _ _).mono ?_; rintro e w2 ⟨rfl, hb2⟩))
          go_meet
          exact ⟨rfl, rfl, Lib.hid (hb1.trans (hb2.mono hb1.size))⟩
        · have d : ((i : Int) % 16 == 0) = false := by rw [beq_eq_false_iff_ne]; omega
          have e15 : (i + 15) / 16 = i / 16 + 1 := by omega
          have e8 := h8.out (by omega)
          rw [e15]
          clear hz e15
          go_wp2_with fail
          go_meet
          exact ⟨rfl, e8, Lib.hid (Below.refl _ _)⟩
      case rest =>
        obtain ⟨rfl, rfl, hbc⟩ := hcut
        obtain ⟨E, hE⟩ : ∃ E, E = block sbT (kW l x) (kn x + 6) (incN (i / 16) C) := ⟨_, rfl⟩
        have hEl : E.length = 16 := by rw [hE]; exact HBL.out _
        have hEb : By E := by rw [hE]; exact HBB.out _
        obtain ⟨q, hqq⟩ : ∃ q, q = i % 16 := ⟨_, rfl⟩
        have HQI : Hid ((i : Int) % 16 = (q : Int)) := Lib.hid (by omega)
        have hkz : q < (bsL E).size := by rw [bsL_len, hEl]; omega
        have hEk : ((bsL E)[q]'hkz).toNat = strm (kW l x) (kn x + 6) C i := by
          rw [← natL_at, natL_bsL hEb, hE, hqq]
          rfl
        have hx256 := (s[i]'h).toNat_lt
        have hy256 := ((bsL E)[q]'hkz).toNat_lt
        have hxo := xor8 (s[i]'h).toNat ((bsL E)[q]'hkz).toNat hx256 hy256
        have hlk : (ml i fun j => (natL s).getD j 0 ^^^ strm (kW l x) (kn x + 6) C j).length = i := ml_len ..
        have hmk := ml_succ i (fun j => (natL s).getD j 0 ^^^ strm (kW l x) (kn x + 6) C j)
        try dsimp only at hmk
        rw [natL_at s h, ← hEk] at hmk
        obtain ⟨M', hM'⟩ : ∃ M', M' = ml (i + 1) fun j => (natL s).getD j 0 ^^^ strm (kW l x) (kn x + 6) C j := ⟨_, rfl⟩
        obtain ⟨M, hM⟩ : ∃ M, M = ml i fun j => (natL s).getD j 0 ^^^ strm (kW l x) (kn x + 6) C j := ⟨_, rfl⟩
        rw [← hM, ← hM'] at hmk
        rw [← hM] at hlk
        have OW : Hid (IB w wc.drew u7 M) := Lib.hid (by rw [hM]; exact (hr.out.below hbc.out).below (below_drewN (Below.refl wc.heap.size wc) 1))
        obtain ⟨z, hz⟩ : ∃ z, z = (s[i]'h).toNat ^^^ ((bsL E)[q]'hkz).toNat := ⟨_, rfl⟩
        rw [← hz] at hmk hxo
        have HM' := Lib.hid hM'
        have HMK := Lib.hid (And.intro hmk hxo)
        have HLK := Lib.hid hlk
        have HEE := Lib.hid hE
        rw [← hE]
        clear hM hM' hmk hxo hlk hz hEk hE hEb hEl hr h8 hbc hqq
        go_upto_region 9 with fail
        (refine Pl.wp_region_plan (fun q => vblk u7 = some q) [(true, 0), (true, 1), (true, 2), (true, 3), (true, 4), (true, 5), (true, 6), (true, 7), (true, 8), (false, 9), (false, 10), (false, 11)] (by kernel_rfl) (by kernel_rfl) ?_)
        (refine Pl.plan_head (i := 0) rfl (fun K hK => ?_); refine Pl.plan_plain (u7) (by first | rfl | simp [Region.wanted, yielded]) (fun w' hw' => by go_simp) ?_; go_simp; (with_reducible apply hK); clear hK K)
        (refine Pl.plan_head (i := 1) rfl (fun K hK => ?_); refine Pl.plan_plain (.string s) (by first | rfl | simp [Region.wanted, yielded]) (fun w' hw' => by go_simp) ?_; go_simp; (with_reducible apply hK); clear hK K)
        (refine Pl.plan_head (i := 2) rfl (fun K hK => ?_); refine Pl.plan_plain (.int .i64 (i : Nat)) (by first | rfl | simp [Region.wanted, yielded]) (fun w' hw' => by go_simp) ?_; go_simp; (with_reducible apply hK); clear hK K)
        (refine Pl.plan_head (i := 3) rfl (fun K hK => ?_); refine Pl.plan_plain (.int .u8 ((s[i]'h).toNat : Nat)) (by first | rfl | simp [Region.wanted, yielded]) (fun w' hw' => by go_simp) ?_; go_simp; (with_reducible apply hK); clear hK K)
        (refine Pl.plan_head (i := 4) rfl (fun K hK => ?_); refine Pl.plan_plain (.string (bsL E)) (by first | rfl | simp [Region.wanted, yielded]) (fun w' hw' => by go_simp) ?_; go_simp; (with_reducible apply hK); clear hK K)
        (refine Pl.plan_head (i := 5) rfl (fun K hK => ?_); refine Pl.plan_plain (.int .i64 (i : Nat)) (by first | rfl | simp [Region.wanted, yielded]) (fun w' hw' => by go_simp) ?_; go_simp; (with_reducible apply hK); clear hK K)
        (refine Pl.plan_head (i := 6) rfl (fun K hK => ?_); refine Pl.plan_plain (.int .i64 (q : Nat)) (by first | rfl | simp [Region.wanted, yielded]) (fun w' hw' => by have e := HQI.out; go_simp; rw [Int.tmod_eq_emod_of_nonneg (by omega)]; exact e) ?_; go_simp; (with_reducible apply hK); clear hK K)
        (refine Pl.plan_head (i := 7) rfl (fun K hK => ?_); refine Pl.plan_plain (.int .u8 (((bsL E)[q]'hkz).toNat : Nat)) (by first | rfl | simp [Region.wanted, yielded]) (fun w' hw' => by go_simp) ?_; go_simp; (with_reducible apply hK); clear hK K)
        (refine Pl.plan_head (i := 8) rfl (fun K hK => ?_); refine Pl.plan_plain (.int .u8 (z : Nat)) (by first | rfl | simp [Region.wanted, yielded]) (fun w' hw' => by have e := HMK.out.2; go_simp; try simp [e]) ?_; go_simp; (with_reducible apply hK); clear hK K)
        refine Pl.plan_sole (i := 9) rfl (fun w2 h2 Q2 hQ2 => ?_)
        have K2 := Lib.hid (((Keeps.refl (fun q => vblk u7 = some q) wc.drew).rw h2).alloc (.cells #[.int .u8 (z : Nat)] 5))
        go_wp2_with fail
        refine hQ2 _ _ K2.out ?_
        clear hQ2 Q2
        refine Pl.plan_sole (i := 10) rfl (fun w3 h3 Q3 hQ3 => ?_)
        have BA := Rw.trans (Rw.trans h2 (below1 w2 (.cells #[.int .u8 (z : Nat)] 5))) h3
        have HA := Lib.hid (And.intro BA (K2.out.rw h3))
        have SV := Lib.hid (OW.out.sg.below BA)
        have SL := Lib.hid ((lit_b8 w2 5 z).below h3)
        have b1 : M.length + 1 ≤ maxLen := by rw [HLK.out]; unfold maxLen; omega
        have b2 : (M.length + 1) * 1 ≤ 140737488355328 := by rw [HLK.out]; omega
        have HBB2 := Lib.hid (And.intro b1 b2)
        clear b1 b2 BA h2 h3 K2
        go_simp
        refine wpList_append_any _ rfl (.tmp 25) (.tmp 34) 34 rfl 5 j0 (.int .u8 0) 1 1 Tryd.underlying34 J.out J0.out J1.out J2.out rfl (by decide) u7 M.length _ rfl SV.out (.slice (some ⟨w2.heap.size, 0, none⟩) 1 1) 1 _ rfl SL.out (b8_one _) HBB2.out.1 HBB2.out.2 ?grow
        case grow =>
          intro vo' w4 hs4 hv4 hk4
          have K4 : Keeps (fun q => vblk u7 = some q) wc.drew w4 := HA.out.2.trans hk4 (fun q _ hq => hq)
          have N4 : IB w w4 vo' M' := by
            rw [← HMK.out.1]
            exact OW.out.app (m := [z]) HA.out.1 hs4 hv4 hk4
          have HALL := Lib.hid N4
          have HK4 := Lib.hid K4
          clear hs4 hv4 hk4 K4 N4 HA SV SL OW
          go_wp2_with fail
          refine hQ3 _ _ HK4.out ?_
          clear hQ3 Q3
          refine Pl.plan_sole (i := 11) rfl (fun w5 h5 Q5 hQ5 => ?_)
          have HK5 := Lib.hid (HK4.out.rw h5)
          have HALL5 := Lib.hid (HALL.out.below h5)
          clear HALL HK4 h5
          go_wp2_with fail
          refine hQ5 _ _ HK5.out ?_
          clear hQ5 Q5
          refine Pl.plan_nil (fun w6 h6 => ?_)
          have HALL6 := Lib.hid (HALL5.out.below h6)
          clear HALL5 HK5 h6
          go_wp2_with fail
          go_roundw
          case rel => exact ⟨i + 1, by rw [show (i + 1 + 15) / 16 = i / 16 + 1 by omega], by go_num, by omega, Lib.hid (fun hz => by rw [HEE.out, show (i + 1) / 16 = i / 16 by omega]), Lib.hid (by rw [← HM'.out]; exact HALL6.out)⟩
          case measure => simp [intOf]; omega
    · have hie : i = s.size := by omega
      have hfin : (ml i fun j => (natL s).getD j 0 ^^^ strm (kW l x) (kn x + 6) C j) = xorL (kW l x) (kn x + 6) C (natL s) := by
        rw [hie]
        unfold xorL
        rw [natL_len]
      rw [hfin] at hr
      have hby : By (xorL (kW l x) (kn x + 6) C (natL s)) := xorL_by (kW_by HL.out.2 x) HC.out.2 (natL_by s) _
      have hstr := run_str8 hby hr.out.sg
      clear hie hfin hby
      go_wp2_with fail
      go_ret
      exact ⟨rfl, hr.out.bel⟩
end Go.Proofs.YteleedcpepifjaaDoor
