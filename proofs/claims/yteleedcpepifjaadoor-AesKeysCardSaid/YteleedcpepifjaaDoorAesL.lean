/-
The tables: lay makes them as the plain mathematics says.
-/
import Derived.Test.YteleedcpepifjaaDoorAesB
import Derived.Test.YteleedcpepifjaaDoorBlks
namespace Go.Proofs.YteleedcpepifjaaDoor
open Go.RowKit AesP
set_option maxRecDepth 100000
theorem pw_lt {i : Nat} (h : i < 256) : pw i < 256 := pw_lt' ⟨i, h⟩
theorem pwL_at {i : Nat} : ∀ n, i < n → n ≤ 256 → (pwL n).getD i 0 = pw i
  | 0, h, _ => absurd h (Nat.not_lt_zero _)
  | n + 1, h, hn => by
    show ((pwL n).set n (pw n)).getD i 0 = pw i
    rw [List.getD_eq_getElem?_getD, List.getElem?_set]
    by_cases e : n = i
    · subst e
      rw [if_pos rfl, if_pos (by rw [pwL_len]; omega)]; rfl
    · rw [if_neg e, ← List.getD_eq_getElem?_getD]; exact pwL_at n (by omega) (by omega)
theorem whL_by : ∀ n, n ≤ 256 → By (whL n)
  | 0, _ => fun x hx => by rw [List.mem_replicate.1 hx |>.2]; decide
  | n + 1, h => fun x hx => by
    rcases List.mem_or_eq_of_mem_set hx with hx | rfl
    · exact whL_by n (by omega) x hx
    · omega
theorem subP_lt {b : Nat} (h : b < 256) : subP b < 256 := by rw [← sub_eq h]; exact sub_lt h
theorem set_app1 (a b : List Nat) (i d : Nat) (h : i < a.length) : (a ++ b).set i d = a.set i d ++ b := by rw [List.set_append, if_pos h]
theorem set_app2 (a b : List Nat) (i d : Nat) : (a ++ b).set (a.length + i) d = a ++ b.set i d := by rw [List.set_append, if_neg (by omega)]; congr 2; omega

set_option maxHeartbeats 4000000 in
theorem lay_ok (w : World) : Calls Tryd.prog 19 #[] w fun e w' => ∃ t, e = .returned (.pointer (some ⟨t, 0, none⟩)) ∧ w.heap.size ≤ t ∧ Blk w' t 61 (b8 (sbT ++ bkT)) ∧ Below w.heap.size w w' := by
  go_enter Tryd.func19, Tryd.ntmps19
  go_upto_region 2 with fail
  refine wp_gen (fun wx => Blk wx w.heap.size 59 (b8 (pwL 0)) ∧ Blk wx (w.heap.size + 1) 59 (b8 (whL 0)) ∧ Below w.heap.size w wx) ⟨(Blk.new w _ (b8 (pwL 0))).alloc _, Blk.new2 _ _ _ (b8 (whL 0)), below2 _ _ _⟩ ?_
  rintro w1 ⟨O1, O2, BW⟩
  have B0 : Below w.heap.size w1 w1 := Below.refl _ _
  have H0 := Lib.hid (And.intro O1 (And.intro O2 BW))
  clear O1 O2 BW B0
  go_wp2_with fail
  go_loopw [3, 10] (fun x v wr => ∃ i : Nat, x = .int .u8 (pw i : Nat) ∧ v = .int .i64 i ∧ i ≤ 255 ∧ Hid (Blk wr w.heap.size 59 (b8 (pwL i)) ∧ Blk wr (w.heap.size + 1) 59 (b8 (whL i)) ∧ Below w.heap.size w wr)) (fun _ v _ => 255 - (intOf v).toNat)
  case atStart => exact ⟨0, rfl, rfl, by omega, H0.out⟩
  case round =>
    obtain ⟨i, rfl, rfl, hi, hr⟩ := hrel
    have hx := pw_lt (i := i) (by omega)
    have e1 : pwL (i + 1) = (pwL i).set i (pw i) := rfl
    have e2 : whL (i + 1) = (whL i).set (pw i) i := rfl
    have e3 : pw (i + 1) = pw i ^^^ tw (pw i) := rfl
    have hrw := xor8 (pw i) (tw (pw i)) hx (tw_lt hx)
    rw [← e3] at hrw
    have E1 := Lib.hid (And.intro e1 e2)
    clear e1 e2 e3
    rcases Nat.lt_or_ge i 255 with h | h
    · generalize pw i = x at *
      obtain ⟨O1, O2, BW⟩ := hr.out
      have L1 : (pwL i).length = 256 := pwL_len i
      have L2 : (whL i).length = 256 := whL_len i
      have c1 := O1.b8cell i (by omega)
      have f1 := O1.free i
      have S1 := O1.b8set i x
      have S2 := (O2.far (show w.heap.size + 1 ≠ w.heap.size by omega) i (.int .u8 (x : Nat)))
      have c2 := S2.b8cell x (by omega)
      have f2 := S2.free x
      generalize (pwL i).getD i 0 = z1 at *
      generalize (whL i).getD x 0 = z2 at *
      have T1 := (S1.far (show w.heap.size ≠ w.heap.size + 1 by omega) x (.int .u8 (i : Nat)))
      have T2 := S2.b8set x i
      rw [← E1.out.1] at T1
      rw [← E1.out.2] at T2
      have T3 := (below_set' (below_set' BW w.heap.size i (.int .u8 (x : Nat)) (Nat.le_refl _)) (w.heap.size + 1) x (.int .u8 (i : Nat)) (by omega))
      have TT := Lib.hid (And.intro T1 (And.intro T2 T3))
      clear O1 O2 BW L1 L2 S1 S2 T1 T2 T3 E1
      go_wp2_with (go_at_call 21; refine (twice_ok x hx _).mono ?_; rintro e w' ⟨rfl, rfl⟩)
      go_roundw
      case rel => exact ⟨i + 1, rfl, by go_num, by omega, TT.out⟩
      case measure => simp [intOf]; omega
    · have h255 : i = 255 := by omega
      rw [h255] at hr
      clear hrw E1 hx H0 h255
      go_upto_region 10 with fail
      clear hi h
      obtain ⟨O1, O2, BW⟩ := hr.out
      have hsz : w.heap.size + 1 < wr.heap.size := O2.lt
      refine wp_gen (fun wx => Blk wx wr.heap.size 61 (b8 (sbL 0 ++ bkL 0)) ∧ Blk wx w.heap.size 59 (b8 (pwL 255)) ∧ Blk wx (w.heap.size + 1) 59 (b8 (whL 255)) ∧ Below w.heap.size w wx) ⟨Blk.new wr _ (b8 (sbL 0 ++ bkL 0)), O1.alloc _, O2.alloc _, BW.alloc BW.size _⟩ ?_
      rintro w2 H2
      have hH2 := Lib.hid H2
      clear H2 O1 O2 BW hr
      generalize wr.heap.size = T at *
      go_wp2_with fail
      go_loopw [27] (fun v wx => ∃ n : Nat, v = .int .i64 n ∧ n ≤ 256 ∧ Hid (Blk wx T 61 (b8 (sbL n ++ bkL n)) ∧ Blk wx w.heap.size 59 (b8 (pwL 255)) ∧ Blk wx (w.heap.size + 1) 59 (b8 (whL 255)) ∧ Below w.heap.size w wx)) (fun v _ => 256 - (intOf v).toNat)
      case atStart => exact ⟨0, rfl, by omega, hH2.out⟩
      case round =>
        obtain ⟨n, rfl, hn, hr⟩ := hrel
        clear hH2
        rcases Nat.lt_or_ge n 256 with h | h
        · go_upto_if 31 with fail
          go_cut [7] (fun v7 wx => v7 = .int .u8 (invP n : Nat) ∧ wr = wx)
          case first =>
            rcases Nat.eq_zero_or_pos n with h0 | h0
            · subst h0
              go_wp2_with fail
              go_meet
              exact ⟨rfl, rfl⟩
            · obtain ⟨OT, O1, O2, BW⟩ := hr.out
              have c2 := O2.b8cell n (by rw [whL_len]; omega)
              have hw := (whL_by 255 (by decide)).get n
              have hinv : invP n = (pwL 255).getD ((255 - (whL 255).getD n 0) % 255) 0 := by unfold invP; rw [if_neg (by omega)]
              generalize (whL 255).getD n 0 = q at *
              have hq : (255 - q) % 255 < 255 := Nat.mod_lt _ (by decide)
              have c1 := O1.b8cell ((255 - q) % 255) (by rw [pwL_len]; omega)
              have hmi : ((-(q : Int)) % 255).toNat = (255 - q) % 255 := by omega
              rw [← hinv] at c1
              clear hinv OT O1 O2 BW
              go_wp2_with fail
              go_meet
              exact ⟨rfl, rfl⟩
          case rest =>
            obtain ⟨rfl, rfl⟩ := hcut
            have hy : invP n < 256 := invlt_fin ⟨n, h⟩
            have hsub : subP n = affP (invP n) 4 (invP n ^^^ 99) := rfl
            have HSB := Lib.hid (And.intro (show sbL (n + 1) = (sbL n).set n (subP n) from rfl) (show bkL (n + 1) = (bkL n).set (subP n) n from rfl))
            have hsl := subP_lt h
            generalize subP n = z at *
            have HSU := Lib.hid hsub
            clear hsub
            generalize invP n = y at *
            have hx1 := xor8 y 99 hy (by decide)
            have HX := Lib.hid hx1
            go_wp2_with fail
            go_loop [8, 9] (fun v8 v9 => ∃ k : Nat, v8 = .int .u8 (affP y k (y ^^^ 99) : Nat) ∧ v9 = .int .i64 ((k : Int) + 1) ∧ k ≤ 4 ∧ affP y k (y ^^^ 99) < 256) (fun _ v => 5 - (intOf v).toNat)
            case atStart => exact ⟨0, congrArg (Value.int .u8) HX.out, rfl, by omega, xor_lt hy (by decide)⟩
            case round =>
              obtain ⟨k, rfl, rfl, hk, hlt⟩ := hrel
              rcases Nat.lt_or_ge k 4 with h4 | h4
              · have hr1 : rotl y (k + 1) < 256 := by
                  unfold rotl
                  exact Nat.or_lt_two_pow (n := 8) (Nat.mod_lt _ (by decide)) (Nat.lt_of_le_of_lt (Nat.div_le_self _ _) hy)
                have hstep : affP y (k + 1) (y ^^^ 99) = affP y k (y ^^^ 99) ^^^ rotl y (k + 1) := rfl
                have hx2 := xor8 _ _ hlt hr1
                have hlt2 := xor_lt hlt hr1
                rw [← hstep] at hx2 hlt2
                have HST := Lib.hid (And.intro hx2 hlt2)
                clear hstep hx2 hlt2
                have hro := rotl_ok y (k + 1) hy ⟨by omega, by omega⟩
                rw [show (((k + 1 : Nat) : Int)) = (k : Int) + 1 by push_cast; rfl] at hro
                have HRO := Lib.hid hro
                clear hro
                generalize he1 : affP y (k + 1) (y ^^^ 99) = z1 at *
                have HE1 := Lib.hid he1
                clear he1
                generalize affP y k (y ^^^ 99) = z0 at *
                generalize rotl y (k + 1) = z2 at *
                go_wp2_with (go_at_call 35; refine (HRO.out _).mono ?_; rintro e w' ⟨rfl, rfl⟩)
                go_round
                case rel => exact ⟨k + 1, by rw [HE1.out]; exact congrArg (Value.int .u8) HST.out.1, by go_num, by omega, by rw [HE1.out]; exact HST.out.2⟩
                case measure => simp [intOf]; omega
              · have h44 : k = 4 := by omega
                have hz : affP y k (y ^^^ 99) = z := by rw [h44]; exact HSU.out.symm
                rw [hz]
                clear hz hlt h44
                go_upto_region 21 with fail
                clear hk h4
                obtain ⟨OT, O1, O2, BW⟩ := hr.out
                have hts : w.heap.size + 1 ≠ T ∧ w.heap.size ≠ T ∧ w.heap.size ≤ T := by omega
                have lS := sbL_len n
                have lB := bkL_len n
                clear HX hx1 HSU
                (refine Pl.wp_region_plan (fun k => k = T) [(true, 0), (true, 1), (true, 2), (true, 3), (true, 4), (true, 5), (true, 6), (true, 7), (true, 8), (true, 9), (true, 11), (true, 12), (false, 10), (true, 13), (false, 14)] (by kernel_rfl) (by kernel_rfl) ?_)
                (refine Pl.plan_head (i := 0) rfl (fun K hK => ?_); refine Pl.plan_plain (.pointer (some ⟨T, 0, none⟩)) (by first | rfl | simp [Region.wanted, yielded]) (fun w' hw' => by go_simp) ?_; go_simp; (with_reducible apply hK); clear hK K)
                (refine Pl.plan_head (i := 1) rfl (fun K hK => ?_); refine Pl.plan_plain (.int .i64 n) (by first | rfl | simp [Region.wanted, yielded]) (fun w' hw' => by go_simp) ?_; go_simp; (with_reducible apply hK); clear hK K)
                (refine Pl.plan_head (i := 2) rfl (fun K hK => ?_); refine Pl.plan_plain (.pointer (some ⟨T, 0, none⟩)) (by first | rfl | simp [Region.wanted, yielded]) (fun w' hw' => by go_simp) ?_; go_simp; (with_reducible apply hK); clear hK K)
                (refine Pl.plan_head (i := 3) rfl (fun K hK => ?_); refine Pl.plan_plain (.int .u8 z) (by first | rfl | simp [Region.wanted, yielded]) (fun w' hw' => by go_simp) ?_; go_simp; (with_reducible apply hK); clear hK K)
                (refine Pl.plan_head (i := 4) rfl (fun K hK => ?_); refine Pl.plan_plain (.int .u8 z) (by first | rfl | simp [Region.wanted, yielded]) (fun w' hw' => by go_simp) ?_; go_simp; (with_reducible apply hK); clear hK K)
                (refine Pl.plan_head (i := 5) rfl (fun K hK => ?_); refine Pl.plan_plain (.int .i64 n) (by first | rfl | simp [Region.wanted, yielded]) (fun w' hw' => by go_simp) ?_; go_simp; (with_reducible apply hK); clear hK K)
                (refine Pl.plan_head (i := 6) rfl (fun K hK => ?_); refine Pl.plan_plain (.int .u8 n) (by first | rfl | simp [Region.wanted, yielded]) (fun w' hw' => by have hwr : IntKind.u8.wrap (n : Int) = n := (by rw [IntKind.wrap_u8]; omega); go_simp; try simp [hwr]) ?_; go_simp; (with_reducible apply hK); clear hK K)
                (refine Pl.plan_head (i := 7) rfl (fun K hK => ?_); refine Pl.plan_plain (.pointer (some ⟨T, 0, none⟩)) (by first | rfl | simp [Region.wanted, yielded]) (fun w' hw' => by go_simp) ?_; go_simp; (with_reducible apply hK); clear hK K)
                (refine Pl.plan_head (i := 8) rfl (fun K hK => ?_); refine Pl.plan_plain (.pointer (some ⟨T, 0, none⟩)) (by first | rfl | simp [Region.wanted, yielded]) (fun w' hw' => by go_simp) ?_; go_simp; (with_reducible apply hK); clear hK K)
                (refine Pl.plan_head (i := 9) rfl (fun K hK => ?_); refine Pl.plan_plain (.pointer (some ⟨T, n, none⟩)) (by first | rfl | simp [Region.wanted, yielded]) (fun w' hw' => by go_simp) ?_; go_simp; (with_reducible apply hK); clear hK K)
                (refine Pl.plan_head (i := 11) rfl (fun K hK => ?_); refine Pl.plan_plain (.pointer (some ⟨T, 0, none⟩)) (by first | rfl | simp [Region.wanted, yielded]) (fun w' hw' => by go_simp) ?_; go_simp; (with_reducible apply hK); clear hK K)
                (refine Pl.plan_head (i := 12) rfl (fun K hK => ?_); refine Pl.plan_plain (.pointer (some ⟨T, 256, none⟩)) (by first | rfl | simp [Region.wanted, yielded]) (fun w' hw' => by go_simp) ?_; go_simp; (with_reducible apply hK); clear hK K)
                refine Pl.plan_sole (i := 10) rfl (fun w5 h5 Q5 hQ5 => ?_)
                have B5 : Below wr.heap.size wr w5 := (below_drewN (Below.refl _ _) 1).trans h5
                have OT5 := OT.below B5 OT.lt
                have c5 := OT5.b8cell n (by simp [lS, lB]; omega)
                have f5 := OT5.free n
                have S5 := OT5.b8set n z
                rw [set_app1 _ _ _ _ (by rw [lS]; exact h), ← HSB.out.1] at S5
                have K5 := ((Keeps.refl (fun k => k = T) _).rw h5).set T n (.int .u8 z) (fun _ => rfl)
                have HK5 := Lib.hid (And.intro S5 K5)
                clear S5 K5 B5 OT5 h5
                go_wp2_with fail
                refine hQ5 _ _ HK5.out.2 ?_
                clear c5 f5 hQ5 Q5
                generalize World.setCell w5 _ _ = w6 at *
                (refine Pl.plan_head (i := 13) rfl (fun K hK => ?_); refine Pl.plan_plain (.pointer (some ⟨T, 256 + z, none⟩)) (by first | rfl | simp [Region.wanted, yielded]) (fun w' hw' => by go_simp; intro hh; omega) ?_; go_simp; (with_reducible apply hK); clear hK K)
                refine Pl.plan_sole (i := 14) rfl (fun w7 h7 Q7 hQ7 => ?_)
                have OT7 := HK5.out.1.below h7 HK5.out.1.lt
                have K7 := HK5.out.2.rw h7
                have c7 := OT7.b8cell (256 + z) (by simp [sbL_len, lB]; omega)
                have f7 := OT7.free (256 + z)
                have S7 := OT7.b8set (256 + z) n
                rw [show (sbL (n + 1) ++ bkL n).set (256 + z) n = sbL (n + 1) ++ (bkL n).set z n by have := set_app2 (sbL (n + 1)) (bkL n) z n; rwa [sbL_len] at this, ← HSB.out.2] at S7
                have K8 := K7.set T (256 + z) (.int .u8 n) (fun _ => rfl)
                have HK8 := Lib.hid (And.intro S7 K8)
                clear S7 K7 K8 HK5 OT7 h7
                go_wp2_with fail
                refine hQ7 _ _ HK8.out.2 ?_
                clear c7 f7 hQ7 Q7
                generalize World.setCell w7 _ _ = w8 at *
                refine Pl.plan_nil (fun w9 h9 => ?_)
                have K9 := HK8.out.2.rw h9
                have OT9 := HK8.out.1.below h9 HK8.out.1.lt
                have O19 := K9.blk (show Blk wr.drew _ _ _ from O1) hts.2.1
                have O29 := K9.blk (show Blk wr.drew _ _ _ from O2) hts.1
                have BW9 := (below_drewN BW 1).trans (K9.below BW.size (fun k hk e => by omega))
                have HK9 := Lib.hid (And.intro OT9 (And.intro O19 (And.intro O29 BW9)))
                clear OT9 O19 O29 BW9 K9 h9 HK8 OT O1 O2 BW
                go_wp2_with fail
                go_roundw
                case rel => exact ⟨n + 1, by go_num, by omega, HK9.out⟩
                case measure => simp [intOf]; omega
        · obtain rfl : n = 256 := by omega
          go_wp2_with fail
          go_ret
          obtain ⟨OT, O1, O2, BW⟩ := hr.out
          exact ⟨T, rfl, by omega, OT, BW⟩
end Go.Proofs.YteleedcpepifjaaDoor
