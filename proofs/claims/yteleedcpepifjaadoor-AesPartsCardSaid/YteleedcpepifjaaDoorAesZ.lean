/-
The walk of Xor.
-/
import Derived.Test.YteleedcpepifjaaDoorAesY
namespace Go.Proofs.YteleedcpepifjaaDoor
open Go.RowKit AesP
set_option maxRecDepth 100000
/-- what Xor holds: its bytes, its counter -/
def XS (w wx : World) (v : Value) (n cb : Nat) (L Cn : List Nat) : Prop := Sg wx 1 v n (b8 L) ∧ Blk wx cb 25 (b8 Cn) ∧ Below w.heap.size w wx
theorem XS.below {w wx wy : World} {v : Value} {n cb : Nat} {L Cn : List Nat} (h : XS w wx v n cb L Cn) (hb : Below wx.heap.size wx wy) : XS w wy v n cb L Cn := ⟨h.1.below hb, h.2.1.below hb h.2.1.lt, h.2.2.trans (hb.mono h.2.2.size)⟩
theorem vb_slice {g o n cap q : Nat} (h : vblk (.slice (some ⟨g, o, none⟩) n cap) = some q) : q = g := by
  by_cases hc : cap = 0
  · simp [vblk, hc] at h
  · simp [vblk, hc] at h; omega
theorem XS.out {w wx : World} {g o n cap cb : Nat} {L Cn : List Nat} (h : XS w wx (.slice (some ⟨g, o, none⟩) n cap) n cb L Cn) (hg : w.heap.size ≤ g) (hgc : g ≠ cb) {i : Nat} (hi : i < n) (x : Nat) : XS w (wx.setCell ⟨g, o + i, none⟩ (.int .u8 (x : Nat))) (.slice (some ⟨g, o, none⟩) n cap) n cb (L.set i x) Cn :=
  ⟨h.1.set8 i x hi, ((Keeps.refl (fun k => k = g) wx).set g (o + i) _ (fun _ => rfl)).blk h.2.1 (fun e => hgc e.symm), below_set' h.2.2 _ _ _ hg⟩
theorem XS.ctr {w wx : World} {v : Value} {n cb : Nat} {L Cn : List Nat} (h : XS w wx v n cb L Cn) (hv : ∀ q, vblk v = some q → q ≠ cb) (hc : w.heap.size ≤ cb) (k x : Nat) : XS w (wx.setCell ⟨cb, k, none⟩ (.int .u8 (x : Nat))) v n cb L (Cn.set k x) :=
  ⟨h.1.keeps ((Keeps.refl (fun q => q = cb) wx).set cb k _ (fun _ => rfl)) (fun q hq e => hv q hq e), h.2.1.b8set k x, below_set' h.2.2 _ _ _ hc⟩
theorem bl_min (f g : Nat → Nat) (m n : Nat) : bl f g (min m n) n = bl f g m n := by
  unfold bl
  refine ml_congr fun i hi => ?_
  by_cases h : i < m
  · rw [if_pos h, if_pos (by omega)]
  · rw [if_neg h, if_neg (by omega)]
set_option maxHeartbeats 4000000 in
theorem pxor_ok {l C : List Nat} {c t bw o cap : Nat} (hlb : By l) (x : Int) (hC : C.length = 16) (hCb : By C) (s : ByteArray) (hs : s.size ≤ 1000) (w : World) (hCi : Ci w c t bw o (4 * (kn x + 7)) cap (kW l x)) :
    Calls Tryd.prog 15 #[.pointer (some ⟨c, 0, none⟩), .agg (b8 C).toArray, .string s] w fun e w' => e = .returned (.string (bsL (xorL (kW l x) (kn x + 6) C (natL s)))) ∧ Below w.heap.size w w' := by
  have HC := Lib.hid (And.intro hC hCb)
  have HCI := Lib.hid hCi
  have hE : ∀ k w', Below w.heap.size w w' → Calls Tryd.prog 11 #[.pointer (some ⟨c, 0, none⟩), .agg (b8 (incN k C)).toArray] w' fun e w'' => e = .returned (.agg (b8 (block sbT (kW l x) (kn x + 6) (incN k C))).toArray) ∧ Below w'.heap.size w' w'' := fun k w' hw' => blkk x (incN_len hC k) (incN_by hCb k) w' (hCi.below hw')
  have HE := Lib.hid hE
  have hst : ∀ j, strm (kW l x) (kn x + 6) C j < 256 := fun j => strm_lt (kW_by hlb x) hCb _ j
  have HST := Lib.hid hst
  have hbl : ∀ k, (block sbT (kW l x) (kn x + 6) (incN k C)).length = 16 := fun k => block_len _ _ _ _
  have HBL := Lib.hid hbl
  have hbb : ∀ k, By (block sbT (kW l x) (kn x + 6) (incN k C)) := fun k => block_by (kW_by hlb x) (incN_by hCb k) _
  have HBB := Lib.hid hbb
  have HXB := Lib.hid (xorL_by (kW_by hlb x) hCb (natL_by s) (kn x + 6))
  have hA : Blk (w.alloc (.cells (b8 C).toArray 25)) w.heap.size 25 (b8 C) := Blk.new w _ _
  have hA1 := below1 w (.cells (b8 C).toArray 25)
  have LC : (b8 C).length = 16 := by rw [b8_len]; exact hC
  have HLC := Lib.hid LC
  clear hlb hC hCb hE hst hbl hbb hCi LC
  obtain ⟨w1, hw1⟩ : ∃ w1, w1 = w.alloc (.cells (b8 C).toArray 25) := ⟨_, rfl⟩
  rw [← hw1] at hA hA1
  have hcv := run_by w1 9 34 5 s Tryd.underlying9 Tryd.underlying34 Tryd.underlying5
  have SG := by_sg w1 5 s (by unfold maxLen; omega)
  rw [byv_natL] at SG
  have BW := by_below w1 5 s
  have hvb := by_blk w1 5 s
  have hcl := hA.lt
  obtain ⟨ao, cp, hv7⟩ : ∃ ao cp, byVal w1 5 s = .slice ao s.size cp := ⟨_, _, rfl⟩
  rw [hv7] at SG hvb
  have H0 : Hid (XS w (byWorld w1 5 s) (.slice ao s.size cp) s.size w.heap.size (bl (fun j => (natL s).getD j 0 ^^^ strm (kW l x) (kn x + 6) C j) (fun j => (natL s).getD j 0) (16 * 0) s.size) (incN 0 C)) := by
    rw [Nat.mul_zero, bl_zero, ml_eta (natL_len s)]
    exact Lib.hid ⟨SG, hA.below BW hA.lt, hA1.trans (BW.mono hA1.size)⟩
  have HVB : Hid (∀ q, vblk (.slice ao s.size cp) = some q → w.heap.size < q) := Lib.hid fun q hq => by rw [hvb q hq]; exact hcl
  have HV7 := Lib.hid hv7
  have HW1 := Lib.hid hw1
  clear SG hA hA1 hvb hcl hv7 hw1
  go_enter Tryd.func15, Tryd.ntmps15
  go_upto_region 1 with fail
  rw [← HW1.out]
  go_upto_region 3 with fail
  rw [HV7.out]
  clear hcv
  generalize byWorld w1 5 s = w2 at *
  obtain ⟨F, hF⟩ : ∃ F : Nat → Nat, F = fun j => (natL s).getD j 0 ^^^ strm (kW l x) (kn x + 6) C j := ⟨_, rfl⟩
  obtain ⟨S, hS⟩ : ∃ S : Nat → Nat, S = fun j => (natL s).getD j 0 := ⟨_, rfl⟩
  rw [← hF, ← hS] at H0
  have HF := Lib.hid (And.intro hF hS)
  obtain ⟨cb, hcb⟩ : ∃ cb, cb = w.heap.size := ⟨_, rfl⟩
  have H1 : Hid (XS w w2 (.slice ao s.size cp) s.size cb (bl F S (16 * 0) s.size) (incN 0 C)) := by rw [hcb]; exact H0
  have HVC : Hid (∀ q, vblk (.slice ao s.size cp) = some q → w.heap.size ≤ q ∧ q ≠ cb) := Lib.hid fun q hq => by have := HVB.out q hq; omega
  have HCB : Hid (w.heap.size ≤ cb) := Lib.hid (by omega)
  rw [show (Value.pointer (some ⟨w.heap.size, 0, none⟩)) = .pointer (some ⟨cb, 0, none⟩) by rw [hcb]]
  clear H0 HVB hF hS hcb
  go_loopw [8] (fun v8 wx => ∃ k : Nat, v8 = .int .i64 (16 * (k : Int)) ∧ k ≤ 70 ∧ (k = 0 ∨ 16 * k < s.size + 16) ∧ Hid (XS w wx (.slice ao s.size cp) s.size cb (bl F S (16 * k) s.size) (incN k C))) (fun v _ => 2000 - (intOf v).toNat)
  case atStart => exact ⟨0, rfl, by omega, .inl rfl, H1⟩
  case round =>
    obtain ⟨k, rfl, hk, hks, hr⟩ := hrel
    clear H1
    rcases Nat.lt_or_ge (16 * k) s.size with h | h
    · have hn0 : 0 < s.size := by omega
      obtain ⟨g, ov, cap', hv, hnc, -, kvb, kgl, -, -⟩ := hr.out.1.open hn0
      simp only [Value.slice.injEq, true_and] at hv
      obtain ⟨rfl, rfl⟩ := hv
      have hgo := HVC.out g kvb
      have B5 := Lib.hid hr.out.2.1
      have lI : Hid ((b8 (incN k C)).length = 16) := Lib.hid (by rw [b8_len]; exact incN_len HC.out.1 k)
      have hEc := HE.out k wr hr.out.2.2
      have hEl := HBL.out k
      have hEb := HBB.out k
      obtain ⟨E, hE⟩ : ∃ E, E = block sbT (kW l x) (kn x + 6) (incN k C) := ⟨_, rfl⟩
      rw [← hE] at hEc hEl hEb
      have HEC := Lib.hid hEc
      have HEE := Lib.hid (And.intro hE (And.intro hEl hEb))
      have E8 : Hid ((b8 E).length = 16) := Lib.hid (by rw [b8_len]; exact hEl)
      have HG := Lib.hid (And.intro hgo kgl)
      have hcap : s.size ≤ cp := hnc
      clear hEc hE hEl hEb kvb hgo kgl hnc
      go_upto_region 5 with fail
      go_upto_region 6 with (first | (refine load_blk B5.out Tryd.underlying25 rfl blk_size lI.out rfl rfl rfl ?_) | (go_at_call 11; refine HEC.out.mono ?_; rintro e w3 ⟨rfl, hb3⟩; have A5 := Lib.hid (Blk.new w3 25 (b8 z16))) | (refine store_blk A5.out blk_size E8.out rfl (b8_one _) rfl rfl rfl rfl ?_))
      obtain ⟨w4, x9, hw4, hx9⟩ : ∃ w4 x9, w4 = (w3.alloc (.cells (b8 z16).toArray 25)).setRow w3.heap.size (b8 E).toArray ∧ x9 = w3.heap.size := ⟨_, _, rfl, rfl⟩
      have D : Below wr.heap.size wr w4 := by rw [hw4]; exact hb3.trans ((below_row (below1 w3 _) _ _ (Nat.le_refl _)).mono hb3.size)
      have A6 : Blk w4 x9 25 (b8 E) := by rw [hw4, hx9]; exact A5.out.setRow _
      rw [show w3.alloc (Obj.cells #[Value.int .u8 0, Value.int .u8 0, Value.int .u8 0, Value.int .u8 0, Value.int .u8 0, Value.int .u8 0, Value.int .u8 0, Value.int .u8 0, Value.int .u8 0, Value.int .u8 0, Value.int .u8 0, Value.int .u8 0, Value.int .u8 0, Value.int .u8 0, Value.int .u8 0, Value.int .u8 0] 25) = w3.alloc (.cells (b8 z16).toArray 25) from rfl, ← hw4, ← hx9]
      have hx9g : g < x9 := by rw [hx9]; exact Nat.lt_of_lt_of_le HG.out.2 hb3.size
      have HX9 := Lib.hid hx9g
      have H2 : Hid (XS w w4 (.slice (some ⟨g, ov, none⟩) s.size cp) s.size cb (bl F S (16 * k) s.size) (incN k C) ∧ Blk w4 x9 25 (b8 E)) := Lib.hid ⟨hr.out.below D, A6⟩
      clear hw4 hx9 D A6 A5 hb3 hr B5 HEC hx9g
      simp only [Act.put]
      go_upto_region 7 with fail
      go_loopw [10] (fun v10 wx => ∃ i : Nat, v10 = .int .i64 i ∧ 16 * k ≤ i ∧ i ≤ 16 * k + 16 ∧ i ≤ s.size ∧ Hid (XS w wx (.slice (some ⟨g, ov, none⟩) s.size cp) s.size cb (bl F S i s.size) (incN k C) ∧ Blk wx x9 25 (b8 E))) (fun v _ => 2000 - (intOf v).toNat)
      case atStart => exact ⟨16 * k, by go_num, by omega, by omega, by omega, H2⟩
      case round =>
        obtain ⟨i, rfl, hi1, hi2, hi3, hq⟩ := hrel
        clear H2
        go_upto_region 7 with fail
        go_cut [30] (fun v wx => v = .bool (decide (i < 16 * k + 16 ∧ i < s.size)) ∧ wr = wx)
        case first =>
          go_wp2_with fail
          all_goals
            go_meet
            refine ⟨?_, rfl⟩
            refine congrArg Value.bool ?_
            rw [decide_eq_decide]
            omega
        case rest =>
        obtain ⟨rfl, rfl⟩ := hcut
        by_cases hAB : i < 16 * k + 16 ∧ i < s.size
        · rw [decide_eq_true hAB]
          obtain ⟨hA, hB⟩ := hAB
          obtain ⟨xx, hx⟩ : ∃ x, x = S i := ⟨_, rfl⟩
          obtain ⟨yy, hy⟩ : ∃ y, y = E.getD (i - 16 * k) 0 := ⟨_, rfl⟩
          have hx256 : xx < 256 := by rw [hx, HF.out.2]; exact (natL_by s).get i
          have hy256 : yy < 256 := by rw [hy]; exact HEE.out.2.2.get _
          have cO := (hq.out.1.1.at8 (i := i) hB).1
          have fO := (hq.out.1.1.at8 (i := i) hB).2
          rw [bl_old F S (Nat.le_refl i) hB, ← hx] at cO
          have cE := hq.out.2.b8cell (i - 16 * k) (by rw [HEE.out.2.1]; omega)
          rw [← hy] at cE
          have hFi : F i = xx ^^^ yy := by
            rw [HF.out.1, hx, hy, HF.out.2]
            show _ ^^^ strm _ _ _ _ = _
            unfold strm
            rw [show i / 16 = k by omega, show i % 16 = i - 16 * k by omega, ← HEE.out.1]
          have hxo := xor8 xx yy hx256 hy256
          have ST := hq.out.1.out HG.out.1.1 HG.out.1.2 hB (xx ^^^ yy)
          have hbs : (bl F S i s.size).set i (xx ^^^ yy) = bl F S (i + 1) s.size := by rw [← hFi, bl_set]
          rw [hbs] at ST
          have SE : Blk (wr.setCell ⟨g, ov + i, none⟩ (.int .u8 (xx ^^^ yy : Nat))) x9 25 (b8 E) := ((Keeps.refl (fun q => q = g) wr).set g (ov + i) _ (fun _ => rfl)).blk hq.out.2 (fun e => by have := HX9.out; omega)
          have HST2 := Lib.hid (And.intro hxo (And.intro ST SE))
          have isub : ((i : Int) - 16 * (k : Int)).toNat = i - 16 * k := by omega
          clear hx hy hFi hxo ST hbs SE hq
          go_upto_region 9 with fail
          (refine still_tail 11 (by kernel_rfl) (by kernel_rfl) ?_; simp only [List.take_succ_cons, List.take_zero, List.drop_succ_cons, List.drop_zero]; repeat (refine wpStill_step (fun K hK => ?_); go_simp; (try go_ints); (try simp only [↓IntWalk.iteOmega, true_and]); (with_reducible apply hK); clear hK K)); refine wpStill_nil ?_
          go_wp2_with fail
          rw [HST2.out.1]
          have H6 := Lib.hid HST2.out.2
          generalize World.setCell wr _ _ = w5 at *
          have D0 := below_drewN (Below.refl w5.heap.size w5) 1
          have H7 := Lib.hid (And.intro (H6.out.1.below D0) (H6.out.2.below D0 H6.out.2.lt))
          clear H6 D0
          refine ⟨⟨i + 1, by go_num, by omega, by omega, by omega, H7⟩, ?_⟩
          simp [intOf]; omega
        · have hie : i = min (16 * k + 16) s.size := by omega
          rw [hie, bl_min, show 16 * k + 16 = 16 * (k + 1) by omega] at hq
          clear hie
          have HSB := Lib.hid (decide_eq_false hAB)
          rw [HSB.out]
          clear hAB hi1 hi2 hi3
          have hinc : inc 16 (incN k C) = incN (k + 1) C := rfl
          have HQ := Lib.hid hq.out.1
          have HIN : Hid (By (incN k C) ∧ (incN k C).length = 16) := Lib.hid ⟨incN_by HC.out.2 k, incN_len HC.out.1 k⟩
          clear hq hinc
          go_upto_region 11 with fail
          go_loopw [11] (fun v wx => ∃ (q : Nat) (L : List Nat), v = .int .i64 ((q : Int) - 1) ∧ q ≤ 16 ∧ Hid (inc q L = incN (k + 1) C ∧ By L ∧ L.length = 16) ∧ Hid (XS w wx (.slice (some ⟨g, ov, none⟩) s.size cp) s.size cb (bl F S (16 * (k + 1)) s.size) L)) (fun v _ => (intOf v + 1).toNat)
          case atStart => exact ⟨16, incN k C, rfl, by omega, Lib.hid ⟨rfl, HIN.out.1, HIN.out.2⟩, HQ⟩
          case round =>
            obtain ⟨q, L, rfl, hq, hL, hz⟩ := hrel
            clear HQ
            rcases Nat.eq_zero_or_pos q with h0 | h0
            · have e := hL.out.1
              rw [h0] at e
              have e2 : L = incN (k + 1) C := e
              rw [e2] at hz
              subst h0
              clear e e2 hL hq
              go_wp2_with fail
              go_roundw
              case rel => exact ⟨k + 1, by go_num, by omega, .inr (by omega), hz⟩
              case measure => simp [intOf]; omega
            · obtain ⟨q, rfl⟩ : ∃ j, q = j + 1 := ⟨q - 1, by omega⟩
              rw [show ((q + 1 : Nat) : Int) - 1 = (q : Int) by omega]
              have c1 := hz.out.2.1.b8cell q (by rw [hL.out.2.2]; omega)
              have f1 := hz.out.2.1.free q
              have hinc := hL.out.1
              rw [inc] at hinc
              have hx := hL.out.2.1.get q
              have S1 := hz.out.ctr (fun y hy => by rw [vb_slice hy]; exact HG.out.1.2) HCB.out q ((L.getD q 0 + 1) % 256)
              have BL := byL_set hL.out.2.1 q ((L.getD q 0 + 1) % 256) (Nat.mod_lt _ (by decide))
              have LL : (L.set q ((L.getD q 0 + 1) % 256)).length = 16 := by rw [List.length_set]; exact hL.out.2.2
              have hget : (L.set q ((L.getD q 0 + 1) % 256)).getD q 0 = (L.getD q 0 + 1) % 256 := by rw [List.getD_eq_getElem?_getD, List.getElem?_set_self (by rw [hL.out.2.2]; omega)]; rfl
              have c2 := S1.2.1.b8cell q (by rw [LL]; omega)
              rw [hget] at c2
              have H2 := Lib.hid S1
              have HBL := Lib.hid (And.intro BL LL)
              clear S1 BL LL hget hz hL
              generalize L.getD q 0 = xx at *
              by_cases hzz : (xx + 1) % 256 = 0
              · rw [if_pos hzz] at hinc
                have HI := Lib.hid hinc
                have hx2 : xx = 255 := by omega
                clear hinc
                have HX := Lib.hid hx2
                generalize L.set q ((xx + 1) % 256) = l2 at *
                rw [hzz] at H2
                go_wp2_with fail
                go_roundw
                case rel => exact ⟨q, l2, rfl, by omega, Lib.hid ⟨HI.out, HBL.out.1, HBL.out.2⟩, H2⟩
                case measure => simp [intOf]
              · rw [if_neg hzz] at hinc
                have HI := Lib.hid hinc
                clear hinc
                rw [show (((xx + 1) % 256 : Nat) : Int) = (xx : Int) + 1 by omega] at H2 c2
                have hx2 : xx < 255 := by omega
                generalize L.set q ((xx + 1) % 256) = l2 at *
                have e2 : l2 = incN (k + 1) C := HI.out
                rw [e2] at H2
                clear e2 HI HBL
                go_wp2_with fail
                go_roundw
                case rel => exact ⟨k + 1, by go_num, by omega, .inr (by omega), H2⟩
                case measure => simp [intOf]; omega
    · have hfin : bl F S (16 * k) s.size = xorL (kW l x) (kn x + 6) C (natL s) := by
        have e : bl F S (16 * k) s.size = ml s.size F := by
          unfold bl
          exact ml_congr fun i hi => if_pos (by omega)
        rw [e, HF.out.1]
        unfold xorL
        rw [natL_len]
      rw [hfin] at hr
      have hby : By (xorL (kW l x) (kn x + 6) C (natL s)) := fun y hy => HXB.out y hy
      have hstr := run_str8 hby hr.out.1
      clear hfin hby
      go_wp2_with fail
      go_ret
      exact ⟨rfl, hr.out.2.2⟩
end Go.Proofs.YteleedcpepifjaaDoor
