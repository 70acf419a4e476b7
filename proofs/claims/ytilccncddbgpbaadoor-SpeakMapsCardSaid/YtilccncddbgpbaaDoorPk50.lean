/-
SpeakMaps: the plain law; the walk.
SpeakMaps answers true wherever its tables are laid.
Openers of a law's arguments: arrays of bytes.
-/
import Derived.Lib.LaidTab
import Derived.Test.YtilccncddbgpbaaDoorPk48
import Derived.Test.YtilccncddbgpbaaDoorPk49
import Derived.Test.YtilccncddbgpbaaDoorPk14
namespace Go.Proofs.YtilccncddbgpbaaDoor
open Go.RowKit Sha
namespace Eds
theorem fpOf_enc (x y : Fp) : fpOf ⟨(encL x y).toArray⟩ = y := by
  unfold encL
  split
  · have ht := top_lt y
    rw [fpOf_same (l := leBytes y.val 32) (by simp [leBytes]) (by omega) (by rw [top_is]; omega)]
    exact fpOf_le y
  · exact fpOf_le y
theorem topL_enc (x y : Fp) : topL (encL x y) = decide (x.val % 2 = 1) := by
  have ht := top_lt y
  unfold topL encL
  split
  · rename_i h
    rw [decide_eq_true h]
    have e : ((leBytes y.val 32).set 31 (UInt8.ofNat (y.val / 256 ^ 31 + 128))).getD 31 0 = UInt8.ofNat (y.val / 256 ^ 31 + 128) := by
      rw [List.getD_eq_getElem?_getD, List.getElem?_set_self (by simp [leBytes])]
      rfl
    rw [e, UInt8.toNat_ofNat']
    exact decide_eq_true (by omega)
  · rename_i h
    rw [decide_eq_false h, top_is]
    exact decide_eq_false (by omega)
/-- a point's bytes are read as the point -/
theorem enc_read (P : Ed.Pt) : fpOf ⟨(encP P).toArray⟩ = P.y ∧ rt (P.y * P.y - 1) (Ed.d * (P.y * P.y) + 1) = (evF P.x, true) ∧ P.x = (if topL (encP P) then -evF P.x else evF P.x) := by
  refine ⟨fpOf_enc _ _, Ed.across P.on, ?_⟩
  rw [show topL (encP P) = decide (P.x.val % 2 = 1) from topL_enc _ _]
  exact (Ed.signed_odd P.x).symm
theorem point_enc (P : Ed.Pt) (w : World) : Calls Tryd.prog 14 #[.agg (bvals (encP P)).toArray] w fun e w' => e = .returned (.bool true) ∧ Below w.heap.size w w' := by
  obtain ⟨h1, h2, h3⟩ := enc_read P
  have h := point_ok (encP P) w (encP_len P) P.y (evF P.x) true h1 h2 P.x h3
  rw [show (true && decide (encL P.x P.y = encP P)) = true by rw [Bool.true_and]; exact decide_eq_true rfl] at h
  exact h
theorem maps_u {ls : List UInt8} (hl : ls.length = 32) : multB ls nineB = leBytes (Ed.uOf (Ed.smul (KN ls) Ed.B)).val 32 ∧ Ed.uOf (Ed.smul (KN ls) Ed.B) ≠ 0 := by
  constructor
  · unfold multB
    rw [fpOf_nine, Ed.mult_base (KN_ok hl).2.2]
  · have f := Ed.fine (single_dvd hl)
    exact Ed.uOf_ne f.1 f.2
theorem qOf (s : ByteArray) : ∃ l, Lm l (fpOf s).val ∧ QC 7 #[.string s] (.agg (uvals l).toArray) := ⟨_, Lm.ofN (ofB s), fun w => of_el s w⟩
end Eds
open Eds
set_option maxHeartbeats 8000000 in
set_option maxRecDepth 100000 in
theorem maps_law {T F : List Int} (l : List UInt8) (w : World) (hl : l.length = 32) (hT : ShaT w T F) (hg : ShaG w) :
    Calls Tryd.prog 3 #[.agg (bvals l).toArray] w fun e w' => e = .returned (.bool true) ∧ Below w.heap.size w w' := by
  obtain ⟨S, hS⟩ : ∃ S, S = S512 T F l := ⟨_, rfl⟩
  have LS : S.length = 64 := by rw [hS]; exact S512_len hT _
  have LK : (S.take 32).length = 32 := by rw [List.length_take]; omega
  have HC := Lib.hid (fun bk ty w' (hb : Below w.heap.size w w') (hB : Blk w' bk ty [.string (by8 l)]) => by
    have h := sum512_at hT hg bk ty [by8 l] 1 1 rfl (Nat.le_of_ble_eq_true rfl) (Nat.le_of_ble_eq_true rfl) (by rw [catL_one]; omega) hb hB
    rw [catL_one, ← hS] at h
    exact h)
  have KC := Lib.hid (fun w' (hb : Below w.heap.size w w') => key_ok l w' hl (hT.below hb) (show ShaG w' from ⟨Nat.lt_of_lt_of_le hg.1 hb.size, Nat.lt_of_lt_of_le hg.2 hb.size⟩) S hS)
  have BC := fun w' => base_ok (S.take 32) LK w'
  obtain ⟨hu, hu0⟩ := maps_u LK
  rw [hu] at BC
  obtain ⟨P, hP⟩ : ∃ P, P = Ed.smul (KN (S.take 32)) Ed.B := ⟨_, rfl⟩
  rw [← hP] at BC hu0 KC
  have PC := fun w' => point_enc P w'
  obtain ⟨ly, Ly, CY⟩ := qOf ⟨(encP P).toArray⟩
  rw [show fpOf ⟨(encP P).toArray⟩ = P.y from fpOf_enc _ _] at Ly
  obtain ⟨l1, L1, C1⟩ := qSmall1
  obtain ⟨l2, L2, C2⟩ := qAdd L1 Ly
  obtain ⟨l3, L3, C3⟩ := qSub L1 Ly
  obtain ⟨l4, L4, C4⟩ := qInvert L3
  obtain ⟨lu, Lu, C5⟩ := qMul L2 L4
  rw [show (1 + P.y) * Fp.inv (1 - P.y) = Ed.uOf P from rfl] at Lu
  have C6 := qBytes Lu
  have C7 := qZero Lu (decide_eq_false hu0)
  have LE := encP_len P
  have LU : (leBytes (Ed.uOf P).val 32).length = 32 := by simp [leBytes]
  generalize leBytes (Ed.uOf P).val 32 = ub at *
  generalize encP P = en at *
  have EQ : ∀ w', (Op.equalIn 10000 tB (.agg (bvals ub).toArray) (.agg (bvals ub).toArray)).run Tryd.prog w' = .ok true w' := fun w' => (eq32 w' ub ub LU LU).trans (by rw [decide_eq_true rfl])
  clear hS hT hg hP hu hu0
  go_enter Tryd.func3, Tryd.ntmps3
  go_upto_region 1 with fail
  refine wp_gen (fun wx => Blk wx w.heap.size tB (bvals l) ∧ Below w.heap.size w wx) ⟨Blk.new w _ _, below1 _ _⟩ ?_
  rintro w1 ⟨O1, BW⟩
  have H2 : Hid (Below w.heap.size w w1 ∧ ∀ o, Blk (w1.alloc o) w.heap.size tB (bvals l)) := Lib.hid ⟨BW, fun o => O1.alloc o⟩
  have HB2 := Lib.hid (fun o => BW.alloc BW.size o)
  clear BW
  go_wp2_with (refine conv_step hl O1 rfl rfl rfl ?_)
  refine (HC.out w1.heap.size _ _ (HB2.out _) (Blk.new w1 _ [.string (by8 l)])).mono ?_
  rintro e w3 ⟨rfl, hb⟩
  have O2 : Blk w3 w.heap.size tB (bvals l) := (H2.out.2 _).below hb (H2.out.2 _).lt
  have BW : Below w.heap.size w w3 := (HB2.out _).trans (hb.mono (HB2.out _).size)
  clear hb H2 HB2 O1 HC
  have LSV : Hid ((byv S).length = 64) := Lib.hid (by rw [byv_len]; exact LS)
  have LZ : Hid ((byv (List.replicate 64 (0 : UInt8))).length = 64) := Lib.hid rfl
  have g3 : w.heap.size < w3.heap.size := O2.lt
  have H3 := Lib.hid (And.intro O2 BW)
  clear O2 BW
  go_upto_region 2 with (refine store_blk (Blk.new w3 23 (byv (List.replicate 64 0))) arr64s_size LSV.out LZ.out (byv_one _) rfl rfl rfl rfl ?_)
  refine wp_gen (fun wx => Blk wx w3.heap.size 23 (bvals S) ∧ Blk wx w.heap.size tB (bvals l) ∧ Below w.heap.size w wx) ⟨(Blk.new w3 23 (byv (List.replicate 64 0))).setRow _, (H3.out.1.alloc _).farRow (by omega) _, below_row (H3.out.2.alloc H3.out.2.size _) _ _ (by omega)⟩ ?_
  clear H3
  rintro w4 ⟨O3, O1, BW⟩
  generalize w3.heap.size = c3 at *
  as_aux_lemma =>
    have hat := fun w' => run_arrayAt (P := Tryd.prog) Tryd.underlying22 ⟨c3, 0, none⟩ 32 64 (Nat.le_refl _) w'
    have R3 : w4.rangeAt c3 0 (bvals (S.take 32)) := fun j v hv => by
      refine O3.cell (0 + j) v ?_
      rw [Nat.zero_add]
      have hj : j < (bvals (S.take 32)).length := (List.getElem?_eq_some_iff.1 hv).1
      rw [bvals_len, LK] at hj
      unfold bvals at hv ⊢
      rw [List.map_take, List.getElem?_take_of_lt hj] at hv
      exact hv
    have RH := Lib.hid R3
    clear R3
    go_wp2_with (refine wpList_load_mid rfl 22 _ rfl c3 0 rfl (bvals (S.take 32)) _ RH.out Tryd.underlying22 rfl (by rw [blen LK]; exact arr32_size) ?_)
    refine (BC w4).mono ?_
    rintro e w5 ⟨rfl, hb⟩
    replace O1 := O1.below hb O1.lt
    replace BW := BW.trans (hb.mono BW.size)
    clear hb O3 RH hat
    go_upto_region 3 with (refine new1B rfl rfl rfl rfl rfl LU (by go_simp) (by go_simp) (fun w6 O4 hb => ?_))
    replace O1 := O1.below hb O1.lt
    replace BW := BW.trans (hb.mono BW.size)
    clear hb
    generalize w5.heap.size = c4 at *
    as_aux_lemma =>
      go_simp
      go_wp2_with (refine load_ar O1 hl rfl rfl rfl ?_)
      refine (KC.out w6 BW).mono ?_
      rintro e w7 ⟨rfl, hb⟩
      replace O4 := O4.below hb O4.lt
      replace BW := BW.trans (hb.mono BW.size)
      clear hb O1
      go_upto_region 4 with (refine new1B rfl rfl rfl rfl rfl LE (by go_simp) (by go_simp) (fun w8 O5 hb => ?_))
      replace O4 := O4.below hb O4.lt
      replace BW := BW.trans (hb.mono BW.size)
      clear hb
      generalize w7.heap.size = c5 at *
      as_aux_lemma =>
        go_simp
        go_wp2_with (refine conv_step LE O5 rfl rfl rfl ?_)
        refine (CY w8).mono ?_
        rintro e w9 ⟨rfl, hb⟩
        replace O4 := O4.below hb O4.lt
        replace O5 := O5.below hb O5.lt
        replace BW := BW.trans (hb.mono BW.size)
        clear hb
        go_upto_region 5 with (refine new1 rfl rfl rfl rfl rfl Ly.len (by go_simp) (by go_simp) (fun wa R => ?_))
        have O6 := R.1
        replace O4 := O4.below R.2 O4.lt
        replace O5 := O5.below R.2 O5.lt
        replace BW := BW.trans (R.2.mono BW.size)
        clear R
        generalize w9.heap.size = c6 at *
        as_aux_lemma =>
          go_simp
          go_wp2_with fail
          refine (C1 wa).mono ?_
          rintro e wb ⟨rfl, hb⟩
          replace O4 := O4.below hb O4.lt
          replace O5 := O5.below hb O5.lt
          replace O6 := O6.below hb O6.lt
          replace BW := BW.trans (hb.mono BW.size)
          clear hb
          go_upto_region 6 with (refine new1 rfl rfl rfl rfl rfl L1.len (by go_simp) (by go_simp) (fun wc R => ?_))
          have O7 := R.1
          replace O4 := O4.below R.2 O4.lt
          replace O5 := O5.below R.2 O5.lt
          replace O6 := O6.below R.2 O6.lt
          replace BW := BW.trans (R.2.mono BW.size)
          clear R
          generalize wb.heap.size = c7 at *
          as_aux_lemma =>
            go_simp
            have Dr : Below wc.heap.size wc wc.drew := below_drewN (Below.refl _ _) 1
            have M6 := O6.below Dr O6.lt
            have M7 := O7.below Dr O7.lt
            (refine wp_region_drift 8 (by kernel_rfl) (by kernel_rfl) ?_; simp only [List.take_succ_cons, List.take_zero, List.drop_succ_cons, List.drop_zero])
            (refine drift_step (fun K hK => ?_); refine drift_loadE (fun w' hw' => M7.below hw' M7.lt) L1.len (by first | rfl | simp [Region.wanted, yielded]) rfl (by go_simp) ?_; go_simp; (with_reducible apply hK); clear hK K)
            (refine drift_step (fun K hK => ?_); refine drift_loadE (fun w' hw' => M6.below hw' M6.lt) Ly.len (by first | rfl | simp [Region.wanted, yielded]) rfl (by go_simp) ?_; go_simp; (with_reducible apply hK); clear hK K)
            (refine drift_step (fun K hK => ?_); refine drift_call (.agg (uvals (l2)).toArray) 9 #[.agg (uvals l1).toArray, .agg (uvals ly).toArray] (by first | rfl | simp [Region.wanted, yielded]) (fun w' => by go_simp) (fun w' hw' => (C2 w').mono (by rintro e w'' ⟨rfl, hb⟩; exact ⟨rfl, hb⟩)) ?_; go_simp; (with_reducible apply hK); clear hK K)
            (refine drift_step (fun K hK => ?_); refine drift_loadE (fun w' hw' => M7.below hw' M7.lt) L1.len (by first | rfl | simp [Region.wanted, yielded]) rfl (by go_simp) ?_; go_simp; (with_reducible apply hK); clear hK K)
            (refine drift_step (fun K hK => ?_); refine drift_loadE (fun w' hw' => M6.below hw' M6.lt) Ly.len (by first | rfl | simp [Region.wanted, yielded]) rfl (by go_simp) ?_; go_simp; (with_reducible apply hK); clear hK K)
            (refine drift_step (fun K hK => ?_); refine drift_call (.agg (uvals (l3)).toArray) 11 #[.agg (uvals l1).toArray, .agg (uvals ly).toArray] (by first | rfl | simp [Region.wanted, yielded]) (fun w' => by go_simp) (fun w' hw' => (C3 w').mono (by rintro e w'' ⟨rfl, hb⟩; exact ⟨rfl, hb⟩)) ?_; go_simp; (with_reducible apply hK); clear hK K)
            (refine drift_step (fun K hK => ?_); refine drift_call (.agg (uvals (l4)).toArray) 12 #[.agg (uvals l3).toArray] (by first | rfl | simp [Region.wanted, yielded]) (fun w' => by go_simp) (fun w' hw' => (C4 w').mono (by rintro e w'' ⟨rfl, hb⟩; exact ⟨rfl, hb⟩)) ?_; go_simp; (with_reducible apply hK); clear hK K)
            (refine drift_step (fun K hK => ?_); refine drift_call (.agg (uvals (lu)).toArray) 10 #[.agg (uvals l2).toArray, .agg (uvals l4).toArray] (by first | rfl | simp [Region.wanted, yielded]) (fun w' => by go_simp) (fun w' hw' => (C5 w').mono (by rintro e w'' ⟨rfl, hb⟩; exact ⟨rfl, hb⟩)) ?_; go_simp; (with_reducible apply hK); clear hK K)
            refine drift_nil ?_
            refine drift_new rfl rfl rfl rfl rfl rfl (by simp) Lu.len (fun v => rfl) (fun c8 wd k1 HN O8 => ?_)
            have HB : Below wc.heap.size wc wd := Dr.trans (HN.mono Dr.size)
            replace O4 := O4.below HB O4.lt
            replace O5 := O5.below HB O5.lt
            replace BW := BW.trans (HB.mono BW.size)
            clear Dr M6 M7 HN HB k1 O6 O7
            go_simp
            go_upto_region 7 with fail
            as_aux_lemma =>
              have Dr : Below wd.heap.size wd wd.drew := below_drewN (Below.refl _ _) 1
              have M4 := O4.below Dr O4.lt
              have M5 := O5.below Dr O5.lt
              have M8 := O8.below Dr O8.lt
              have BD := BW.trans (Dr.mono BW.size)
              refine region_quiet (C := fun w' => Below wd.drew.heap.size wd.drew w') (by kernel_rfl) (by kernel_rfl) (Below.refl _ _) ?_
              ((with_reducible refine wpQuiet_step (fun K hK => ?_)); refine quiet_loadE (fun w' hw' => M8.below hw' M8.lt) Lu.len (by first | rfl | simp [Region.wanted, yielded]) rfl (by go_simp) ?_; go_simp; (with_reducible apply hK); clear hK K)
              ((with_reducible refine wpQuiet_step (fun K hK => ?_)); refine quiet_callG (.agg (bvals ub).toArray) 13 #[.agg (uvals lu).toArray] (by first | rfl | simp [Region.wanted, yielded]) (fun w' => by go_simp) (fun w' hw' => (C6 w').mono (by rintro e w'' ⟨rfl, hb⟩; exact ⟨rfl, hw'.trans (hb.mono hw'.size)⟩)) ?_; go_simp; (with_reducible apply hK); clear hK K)
              ((with_reducible refine wpQuiet_step (fun K hK => ?_)); refine quiet_loadB (n := 32) (fun w' hw' => M4.below hw' M4.lt) Tryd.underlying22 rfl (by kernel_rfl) (blen LU) (by first | rfl | simp [Region.wanted, yielded]) rfl (by go_simp) ?_; go_simp; (with_reducible apply hK); clear hK K)
              ((with_reducible refine wpQuiet_step (fun K hK => ?_)); refine quiet_plainG (.bool true) (by first | rfl | simp [Region.wanted, yielded]) (fun w' hw' => by have h := EQ w'; go_simp; try simp [h]) ?_; go_simp; (with_reducible apply hK); clear hK K)
              ((with_reducible refine wpQuiet_step (fun K hK => ?_)); refine quiet_plainG (.bool true) (by first | rfl | simp [Region.wanted, yielded]) (fun w' hw' => by go_simp) ?_; go_simp; (with_reducible apply hK); clear hK K)
              ((with_reducible refine wpQuiet_step (fun K hK => ?_)); refine quiet_loadB (n := 32) (fun w' hw' => M5.below hw' M5.lt) Tryd.underlying22 rfl (by kernel_rfl) (blen LE) (by first | rfl | simp [Region.wanted, yielded]) rfl (by go_simp) ?_; go_simp; (with_reducible apply hK); clear hK K)
              ((with_reducible refine wpQuiet_step (fun K hK => ?_)); refine quiet_callG (.bool true) 14 #[.agg (bvals en).toArray] (by first | rfl | simp [Region.wanted, yielded]) (fun w' => by go_simp) (fun w' hw' => (PC w').mono (by rintro e w'' ⟨rfl, hb⟩; exact ⟨rfl, hw'.trans (hb.mono hw'.size)⟩)) ?_; go_simp; (with_reducible apply hK); clear hK K)
              ((with_reducible refine wpQuiet_step (fun K hK => ?_)); refine quiet_plainG (.bool true) (by first | rfl | simp [Region.wanted, yielded]) (fun w' hw' => by go_simp) ?_; go_simp; (with_reducible apply hK); clear hK K)
              ((with_reducible refine wpQuiet_step (fun K hK => ?_)); refine quiet_plainG (.bool true) (by first | rfl | simp [Region.wanted, yielded]) (fun w' hw' => by go_simp) ?_; go_simp; (with_reducible apply hK); clear hK K)
              ((with_reducible refine wpQuiet_step (fun K hK => ?_)); refine quiet_loadE (fun w' hw' => M8.below hw' M8.lt) Lu.len (by first | rfl | simp [Region.wanted, yielded]) rfl (by go_simp) ?_; go_simp; (with_reducible apply hK); clear hK K)
              ((with_reducible refine wpQuiet_step (fun K hK => ?_)); refine quiet_callG (.bool false) 15 #[.agg (uvals lu).toArray] (by first | rfl | simp [Region.wanted, yielded]) (fun w' => by go_simp) (fun w' hw' => (C7 w').mono (by rintro e w'' ⟨rfl, hb⟩; exact ⟨rfl, hw'.trans (hb.mono hw'.size)⟩)) ?_; go_simp; (with_reducible apply hK); clear hK K)
              ((with_reducible refine wpQuiet_step (fun K hK => ?_)); refine quiet_plainG (.bool true) (by first | rfl | simp [Region.wanted, yielded]) (fun w' hw' => by go_simp) ?_; go_simp; (with_reducible apply hK); clear hK K)
              ((with_reducible refine wpQuiet_step (fun K hK => ?_)); refine quiet_plainG (.bool true) (by first | rfl | simp [Region.wanted, yielded]) (fun w' hw' => by go_simp) ?_; go_simp; (with_reducible apply hK); clear hK K)
              ((with_reducible refine wpQuiet_step (fun K hK => ?_)); refine quiet_plainG (.bool true) (by first | rfl | simp [Region.wanted, yielded]) (fun w' hw' => by go_simp) ?_; go_simp; (with_reducible apply hK); clear hK K)
              refine wpQuiet_nil ?_
              intro we hwe
              have BZ := BD.trans (hwe.mono BD.size)
              go_simp
              go_wp2_with fail
              go_ret
              exact ⟨rfl, BZ⟩
end Go.Proofs.YtilccncddbgpbaaDoor

namespace Go.Proofs.YtilccncddbgpbaaDoor
open Go.RowKit Sha
theorem maps_laid (l : List UInt8) (hl : l.length = 32) (W : World) (h : LV Rows.speakMapsRow.laid W) :
    Calls Tryd.prog 3 #[.agg (l.map fun b => Value.int .u8 (b.toNat : Nat)).toArray] W fun e w' => e = .returned (.bool true) ∧ Below W.heap.size W w' := by
  have h0 : LV [("speakeasy/sha2.words", Rows.laid_speakeasy_sha2_words), ("speakeasy/sha2.first", Rows.laid_speakeasy_sha2_first)] W := h
  obtain ⟨hT, hg⟩ := sha_tabs h0
  exact maps_law l W hl hT hg
end Go.Proofs.YtilccncddbgpbaaDoor

namespace Go.Proofs.YtilccncddbgpbaaDoor
open Go.RowKit Go.ChangeShapes Go.WideShapes Go.ChangeMaps

theorem list_of_each {α β : Type} (f : α → β) : ∀ (L : List β), (∀ i, i < L.length → ∃ a, L[i]? = some (f a)) → ∃ l : List α, L = l.map f
  | [], _ => ⟨[], rfl⟩
  | x :: L, h => by
    obtain ⟨a, ha⟩ := h 0 (Nat.zero_lt_succ _)
    obtain ⟨l, rfl⟩ := list_of_each f L fun i hi => by
      obtain ⟨b, hb⟩ := h (i + 1) (Nat.succ_lt_succ hi)
      exact ⟨b, by simpa using hb⟩
    exact ⟨a :: l, by simp at ha; rw [ha]; rfl⟩

/-- An array of bytes that came in. -/
theorem open_byte_array {H : Type} {enc : TypeId × Value → H} {P : Program} {w : World} {r : Reach} {b0 base : Nat} {sp : Nat → Bool} {held : Bool} {t e : TypeId} {n : Nat} {v : Value} {d : DataW H} {ps : List MemPlace}
    (ht : P.underlying t = some (.array n e)) (he : P.underlying e = some (.int .u8)) (hc : P.cellsOf e = 1) (hct : P.cellsOf t = n) (hval : Value.okWide P w r b0 t v) (h : DataW.Trod enc P w base sp held t v d ps) :
    ∃ l : List UInt8, v = .agg (l.map fun b => Value.int .u8 (b.toNat : Nat)).toArray ∧ l.length = n := by
  simp only [Value.okWide, ht] at hval
  obtain ⟨xs, rfl, hsz, _⟩ := hval
  rw [hct] at hsz
  obtain ⟨fuel, hf⟩ := h
  have hall : ∀ i, i < xs.toList.length → ∃ b : UInt8, xs.toList[i]? = some (Value.int .u8 (b.toNat : Nat)) := by
    intro i hi
    have hin : i < n := by rw [← hsz, ← Array.length_toList]; exact hi
    cases fuel with
    | zero => simp [DataW.trod] at hf
    | succ fuel =>
      simp only [DataW.trod, ht, hc, hct, Nat.mul_one, Value.cells] at hf
      split at hf
      · obtain ⟨ys, hm, hx⟩ := Option.map_eq_some_iff.1 hf
        obtain ⟨b, hb, hfi⟩ := Lib.mapM_at hm i i (by simp [hin])
        obtain ⟨z, hcz, rfl, hwf⟩ := DataW.trod_int he hfi
        have h1 : xs.toList[i]? = some (.int .u8 z) := by
          have := congrArg (·[0]?) hcz
          simpa [List.getElem?_take, List.getElem?_drop] using this
        obtain ⟨m, rfl, hm2⟩ : ∃ m : Nat, z = (m : Int) ∧ m < 256 := by
          have hr : IntKind.u8.min ≤ z ∧ z ≤ IntKind.u8.max := by simpa [Lit.wf] using hwf
          have hr : 0 ≤ z ∧ z ≤ 255 := hr
          exact ⟨z.toNat, by omega, by omega⟩
        exact ⟨UInt8.ofNat m, by rw [h1]; simp [Nat.mod_eq_of_lt hm2]⟩
      · cases hf
  obtain ⟨l, hl⟩ := list_of_each _ _ hall
  refine ⟨l, by rw [← hl], ?_⟩
  have := congrArg List.length hl
  simp at this
  omega
theorem u8_nat {x : Int} (h : (Lit.int .u8 x).wf = true) : ∃ n : Nat, x = n ∧ n < 256 := by
  have hb := bounds_u8 h
  exact ⟨x.toNat, by omega, by omega⟩
end Go.Proofs.YtilccncddbgpbaaDoor
