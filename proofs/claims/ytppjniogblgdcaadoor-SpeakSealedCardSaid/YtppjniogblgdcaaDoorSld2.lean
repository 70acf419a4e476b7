/-
SpeakSealed: the walk.
-/
import Derived.Test.YtppjniogblgdcaaDoorSld1
namespace Go.Proofs.YtppjniogblgdcaaDoor
open Go.RowKit Cha Sha Hm Pol
set_option maxRecDepth 100000
/-- what the outer loop has written after i counts -/
def PFx (a b : Nat) (Z : List UInt8) : Nat → List UInt8
  | 0 => Z
  | 1 => Z ++ cntL a
  | _ => Z ++ cntL a ++ cntL b
def Nsx (a b : Nat) : Nat → Nat
  | 0 => a
  | _ => b
/-- the law's blocks -/
def LQ (w wx : World) (kb nb bb : Nat) (K N B : List UInt8) : Prop := Blk wx kb 24 (byv K) ∧ Blk wx nb 27 (byv N) ∧ Blk wx bb 30 (byv B) ∧ Below w.heap.size w wx
theorem LQ.rw {w wx wy : World} {kb nb bb : Nat} {K N B : List UInt8} (h : LQ w wx kb nb bb K N B) (hr : Rw wx wy) : LQ w wy kb nb bb K N B := ⟨h.1.rw hr, h.2.1.rw hr, h.2.2.1.rw hr, Rw.out h.2.2.2 hr⟩
set_option maxHeartbeats 8000000 in
theorem sealed_ok (T F Bg : List Int) (Or : List Nat) (s0 s1 s2 : ByteArray) (w : World) (hT : ShaT w T F) (hg : ShaG w) (hC : ChaT w Bg Or) (hcg : 0 < w.heap.size ∧ 1 < w.heap.size) :
    Calls Tryd.prog 3 #[.string s0, .string s1, .string s2] w fun e w' => e = .returned (.bool true) ∧ Below w.heap.size w w' := by
  have cut : ∀ (s : ByteArray) (n : Nat), ∃ l, s.extract 0 n = by8 l ∧ l.length ≤ n := fun s n => ⟨(s.extract 0 n).data.toList, (by8_of _).symm, by
    rw [Array.length_toList]; have : (s.extract 0 n).size ≤ n := by rw [ByteArray.size_extract]; omega
    exact this⟩
  obtain ⟨key, ek, lk⟩ := cut s0 80
  obtain ⟨text, et, lt⟩ := cut s1 150
  obtain ⟨extra, ee, le⟩ := cut s2 50
  have c0 : Hid (∀ w, Calls Tryd.prog 4 #[.string s0, .int .i64 80] w fun e w' => e = .returned (.string (by8 key)) ∧ w = w') := Lib.hid (by rw [← ek]; exact cut_ok s0 80)
  have c1 : Hid (∀ w, Calls Tryd.prog 4 #[.string s1, .int .i64 150] w fun e w' => e = .returned (.string (by8 text)) ∧ w = w') := Lib.hid (by rw [← et]; exact cut_ok s1 150)
  have c2 : Hid (∀ w, Calls Tryd.prog 4 #[.string s2, .int .i64 50] w fun e w' => e = .returned (.string (by8 extra)) ∧ w = w') := Lib.hid (by rw [← ee]; exact cut_ok s2 50)
  clear ek et ee cut
  obtain ⟨lab, hlab⟩ : ∃ lab : List UInt8, lab = [108, 111, 99, 107] := ⟨_, rfl⟩
  have hlb : ({ data := #[108, 111, 99, 107] } : ByteArray) = by8 lab := by rw [hlab]; rfl
  obtain ⟨K, hK⟩ : ∃ K, K = spreadL T F key lab 32 := ⟨_, rfl⟩
  obtain ⟨K4, hK4⟩ : ∃ K4, K4 = spreadL T F key lab 40 := ⟨_, rfl⟩
  have h2 := spread_two hT key lab
  rw [← hK, ← hK4] at h2
  have sp1 : Hid (∀ w', Below w.heap.size w w' → Calls Tryd.prog 5 #[.string (by8 key), .string ⟨#[108, 111, 99, 107]⟩, .int .i64 32] w' fun e w'' => e = .returned (.string (by8 K)) ∧ Below w'.heap.size w' w'') := Lib.hid fun w' hb => by
    have hs := hb.size
    rw [hlb, hK]
    exact spread_ok T F key lab 32 (by decide) (by omega) (by rw [hlab]; decide) w' (hT.below hb) ⟨by have := hg.1; omega, by have := hg.2; omega⟩
  have sp2 : Hid (∀ w', Below w.heap.size w w' → Calls Tryd.prog 5 #[.string (by8 key), .string ⟨#[108, 111, 99, 107]⟩, .int .i64 40] w' fun e w'' => e = .returned (.string (by8 K4)) ∧ Below w'.heap.size w' w'') := Lib.hid fun w' hb => by
    have hs := hb.size
    rw [hlb, hK4]
    exact spread_ok T F key lab 40 (by decide) (by omega) (by rw [hlab]; decide) w' (hT.below hb) ⟨by have := hg.1; omega, by have := hg.2; omega⟩
  have zK : (by8 K).size = 32 := by rw [by8_size]; exact h2.2.1
  have zK4 : (by8 K4).size = 40 := by rw [by8_size]; exact h2.2.2
  have xK4 : (by8 K4).extract 0 32 = by8 K := by rw [by8_take, h2.1]
  have LK : Hid ((byv K).length = 32 ∧ K.length = 32) := Lib.hid ⟨by rw [byv_len]; exact h2.2.1, h2.2.1⟩
  clear hK hK4 hlb hlab h2
  obtain ⟨SE, hSE⟩ : ∃ SE, SE = S256 T F extra := ⟨_, rfl⟩
  have lSE : SE.length = 32 := by rw [hSE]; exact S256_len hT _
  obtain ⟨N, hN⟩ : ∃ N, N = SE.take 12 := ⟨_, rfl⟩
  have lN : N.length = 12 := by rw [hN, List.length_take]; omega
  obtain ⟨X, hX⟩ : ∃ X, X = xorF Bg Or K 1 N text := ⟨_, rfl⟩
  have lX : X.length = text.length := by rw [hX]; exact xorF_len _ _ _ _ _ _
  obtain ⟨B, hB⟩ : ∃ B, B = blockF Bg Or K 0 N := ⟨_, rfl⟩
  have lB : B.length = 64 := by rw [hB]; exact block_len _ _ _ _ _
  obtain ⟨TG, hTG⟩ : ∃ TG, TG = mrkL Bg Or K N X extra := ⟨_, rfl⟩
  have lTG : TG.length = 16 := by rw [hTG]; exact mrkL_len _ _ _ _ _ _
  have hcgb : ∀ w', Below w.heap.size w w' → (0 < w'.heap.size ∧ 1 < w'.heap.size) := fun w' hb => by have := hb.size; omega
  have hse : Hid (∀ bk ty w', Below w.heap.size w w' → Blk w' bk ty [.string (by8 extra)] → Calls Tryd.prog 6 #[.slice (some ⟨bk, 0, none⟩) 1 1] w' fun e w'' => e = .returned (.agg (byv SE).toArray) ∧ Rw w' w'') := Lib.hid fun bk ty w' hb hB => by
    have := sum256_at hT hg bk ty [by8 extra] 1 1 rfl (Nat.le_of_ble_eq_true rfl) (Nat.le_of_ble_eq_true rfl) (by rw [catL_one]; omega) hb hB
    rw [catL_one, ← hSE] at this
    exact this
  have hxor : Hid (∀ w', Below w.heap.size w w' → Calls Tryd.prog 7 #[.agg (byv K).toArray, .int .u32 1, .agg (byv N).toArray, .string (by8 text)] w' fun e w'' => e = .returned (.string (by8 X)) ∧ Rw w' w'') := Lib.hid fun w' hb => by
    rw [hX]
    exact xor_ok Bg Or K N 1 text (by omega) w' (hC.below hb) LK.out.2 lN (hcgb w' hb)
  have hblk : Hid (∀ w', Below w.heap.size w w' → Calls Tryd.prog 8 #[.agg (byv K).toArray, .int .u32 0, .agg (byv N).toArray] w' fun e w'' => e = .returned (.agg (byv B).toArray) ∧ Rw w' w'') := Lib.hid fun w' hb => by
    rw [hB]
    exact block_ok Bg Or K N 0 w' (hC.below hb) LK.out.2 lN (hcgb w' hb)
  have hsum : Hid (∀ w', Calls Tryd.prog 9 #[.agg (byv (B.take 32)).toArray, .string (by8 (allL X extra))] w' fun e w'' => e = .returned (.agg (byv TG).toArray) ∧ Rw w' w'') := Lib.hid fun w' => by
    have := psum_ok (B.take 32) (allL X extra) (by rw [List.length_take]; omega) (by
      have h1 := padL_len extra; have h2 := padL_len X
      unfold allL
      simp only [List.length_append, cntL_len]; omega) w'
    rw [hB] at this ⊢
    rw [hTG]
    exact this
  have hopen : Hid (∀ w', Below w.heap.size w w' → Calls Tryd.prog 10 #[.agg (byv K).toArray, .agg (byv N).toArray, .string (by8 (X ++ TG)), .string (by8 extra)] w' fun e w'' => e = .returned (.tuple #[.string (by8 text), .nilIface]) ∧ Rw w' w'') := Lib.hid fun w' hb => by
    have := popen_ok Bg Or K N X extra (by omega) (by omega) w' (hC.below hb) LK.out.2 lN (hcgb w' hb)
    rw [← hTG, show xorF Bg Or K 1 N X = text by rw [hX]; exact xorF_back _ _ _ _ _ _] at this
    exact this
  have hseal : Hid (∀ w', Below w.heap.size w w' → Calls Tryd.prog 11 #[.agg (byv K).toArray, .agg (byv N).toArray, .string (by8 text), .string (by8 extra)] w' fun e w'' => e = .returned (.string (by8 (X ++ TG))) ∧ Rw w' w'') := Lib.hid fun w' hb => by
    have := seal_ok Bg Or K N text extra (by omega) (by omega) w' (hC.below hb) LK.out.2 lN (hcgb w' hb)
    rw [show sealL Bg Or K N text extra = X ++ TG by rw [hTG, hX]; rfl] at this
    exact this
  have LL := Lib.hid (And.intro lSE (And.intro lN (And.intro lX (And.intro lB (And.intro lTG (And.intro hN (And.intro lt le)))))))
  have LN : Hid ((byv N).length = 12) := Lib.hid (by rw [byv_len]; exact lN)
  have LS : Hid ((byv SE).length = 32) := Lib.hid (by rw [byv_len]; exact lSE)
  have LB : Hid ((byv B).length = 64) := Lib.hid (by rw [byv_len]; exact lB)
  have LT : Hid ((byv TG).length = 16) := Lib.hid (by rw [byv_len]; exact lTG)
  have zx : (by8 text).size ≤ 150 := by rw [by8_size]; exact lt
  have ze : (by8 extra).size ≤ 50 := by rw [by8_size]; exact le
  clear hSE lSE lN hX lX hB lB hTG lTG hcgb hT hg hC hcg lt le lk hN
  have hb0 : Hid (Below w.heap.size w w) := Lib.hid (Below.refl _ _)
  go_enter Tryd.func3, Tryd.ntmps3
  go_upto_region 2 with (go_at_call 4; (first | (with_reducible refine (c0.out _).mono ?_) | (with_reducible refine (c1.out _).mono ?_) | (with_reducible refine (c2.out _).mono ?_)); rintro e w2 ⟨rfl, rfl⟩)
  go_upto_region 3 with (go_at_call 5; refine (sp1.out _ hb0.out).mono ?_; rintro e w2 ⟨rfl, hb2⟩; replace hb2 := Lib.hid hb2)
  go_upto_region 5 with (go_at_call 5; refine (sp2.out _ hb2.out).mono ?_; rintro e w3 ⟨rfl, hb3⟩; replace hb3 := Lib.hid (hb2.out.trans (Below.mono hb3 hb2.out.size)))
  have hcv := run_by w3 9 25 5 (by8 K) Tryd.underlying9 Tryd.underlying25 Tryd.underlying5
  obtain ⟨cp, hv, hcp, hrg, hrw⟩ := by_arr w3 5 K (by have := LK.out.2; omega)
  rw [hv, LK.out.2] at hcv
  rw [LK.out.2] at hcp
  have hat := fun w' => run_arrayAt (P := Tryd.prog) Tryd.underlying24 ⟨w3.heap.size, 0, none⟩ 32 cp (Nat.le_refl _) w'
  generalize byWorld w3 5 (by8 K) = w4 at hcv hrg hrw
  have H4 := Lib.hid (And.intro hrg (Rw.out hb3.out hrw))
  clear hrg hrw hv hb2 hb3 sp1 sp2 c0 c1 c2
  have hZ : Hid ((byv (List.replicate 32 (0 : UInt8))).length = 32) := Lib.hid rfl
  have hZ2 : Hid ((byv (List.replicate 12 (0 : UInt8))).length = 12) := Lib.hid rfl
  have hZ6 : Hid ((byv (List.replicate 64 (0 : UInt8))).length = 64) := Lib.hid rfl
  have hZ1 : Hid ((byv (List.replicate 16 (0 : UInt8))).length = 16) := Lib.hid rfl
  go_upto_region 6 with (first
    | refine wpList_load_mid rfl 24 _ rfl w3.heap.size 0 rfl (byv K) _ H4.out.1 Tryd.underlying24 rfl (by rw [LK.out.1]; exact arr32_size') ?_
    | refine store_blk (Blk.new w4 24 (byv (List.replicate 32 0))) arr32_size' LK.out.1 hZ.out (byv_one _) rfl rfl rfl rfl ?_)
  refine wp_gen (fun wx => Blk wx w4.heap.size 24 (byv K) ∧ Below w.heap.size w wx) ⟨(Blk.new w4 24 (byv (List.replicate 32 0))).setRow _, below_row (Rw.out H4.out.2 (below1 _ _)) _ _ H4.out.2.size⟩ ?_
  rintro w5 ⟨B5, BW5⟩
  have H5 := Lib.hid (And.intro B5 BW5)
  clear B5 BW5 H4 hat hcv hcp
  generalize w4.heap.size = kb at *
  go_upto_region 7 with (first
    | (go_at_call 6; refine (hse.out _ _ _ (Rw.out H5.out.2 (below1 _ _)) (Blk.new w5 9 [.string (by8 extra)])).mono ?_; rintro e w6 ⟨rfl, hb6⟩; have H6 := Lib.hid (Rw.trans (below1 _ _) hb6); clear hb6)
    | refine store_blk (Blk.new w6 24 (byv (List.replicate 32 0))) arr32_size' LS.out hZ.out (byv_one _) rfl rfl rfl rfl ?_)
  refine wp_gen (fun wx => Blk wx w6.heap.size 24 (byv SE) ∧ Rw w5 wx) ⟨(Blk.new w6 24 (byv (List.replicate 32 0))).setRow _, Rw.trans H6.out (below_row (below1 w6 _) _ _ (Nat.le_refl _))⟩ ?_
  rintro w7 ⟨B7, R7⟩
  have H7 : Hid (w7.rangeAt w6.heap.size 0 (byv N) ∧ Blk w7 kb 24 (byv K) ∧ Below w.heap.size w w7) := Lib.hid ⟨B7.range 0 _ (fun j v hj => by
    rw [Nat.zero_add]
    rw [LL.out.2.2.2.2.2.1, show byv (SE.take 12) = (byv SE).take 12 by simp [byv, List.map_take]] at hj
    rw [List.getElem?_take] at hj
    split at hj
    · exact hj
    · cases hj), H5.out.1.rw R7, Rw.out H5.out.2 R7⟩
  have hat := fun w' => run_arrayAt (P := Tryd.prog) Tryd.underlying27 ⟨w6.heap.size, 0, none⟩ 12 32 (Nat.le_refl _) w'
  clear B7 R7 H5 H6
  go_upto_region 8 with (first
    | refine wpList_load_mid rfl 27 _ rfl w6.heap.size 0 rfl (byv N) _ H7.out.1 Tryd.underlying27 rfl (by rw [LN.out]; exact arr12_size) ?_
    | refine store_blk (Blk.new w7 27 (byv (List.replicate 12 0))) arr12_size LN.out hZ2.out (byv_one _) rfl rfl rfl rfl ?_)
  refine wp_gen (fun wx => Blk wx w7.heap.size 27 (byv N) ∧ Rw w7 wx) ⟨(Blk.new w7 27 (byv (List.replicate 12 0))).setRow _, below_row (below1 w7 _) _ _ (Nat.le_refl _)⟩ ?_
  rintro w8 ⟨B8, R8⟩
  have H8 := Lib.hid (And.intro (H7.out.2.1.rw R8) (And.intro B8 (Rw.out H7.out.2.2 R8)))
  clear B8 R8 H7 hat
  generalize w7.heap.size = nb at *
  go_upto_region 9 with (first
    | refine wpList_load_mid rfl 24 _ rfl kb 0 rfl (byv K) _ (blk_range H8.out.1) Tryd.underlying24 rfl (by rw [LK.out.1]; exact arr32_size') ?_
    | refine wpList_load_mid rfl 27 _ rfl nb 0 rfl (byv N) _ (blk_range H8.out.2.1) Tryd.underlying27 rfl (by rw [LN.out]; exact arr12_size) ?_
    | (go_at_call 7; refine (hxor.out _ H8.out.2.2).mono ?_; rintro e w9 ⟨rfl, hb9⟩; have H9 := Lib.hid (And.intro (H8.out.1.rw hb9) (And.intro (H8.out.2.1.rw hb9) (Rw.out H8.out.2.2 hb9))); clear hb9))
  clear H8
  go_upto_region 10 with (first
    | refine wpList_load_mid rfl 24 _ rfl kb 0 rfl (byv K) _ (blk_range H9.out.1) Tryd.underlying24 rfl (by rw [LK.out.1]; exact arr32_size') ?_
    | refine wpList_load_mid rfl 27 _ rfl nb 0 rfl (byv N) _ (blk_range H9.out.2.1) Tryd.underlying27 rfl (by rw [LN.out]; exact arr12_size) ?_
    | (go_at_call 8; refine (hblk.out _ H9.out.2.2).mono ?_; rintro e wa ⟨rfl, hba⟩; have Ha := Lib.hid (And.intro (H9.out.1.rw hba) (And.intro (H9.out.2.1.rw hba) (Rw.out H9.out.2.2 hba))); clear hba)
    | refine store_blk (Blk.new wa 30 (byv (List.replicate 64 0))) arr64_size LB.out hZ6.out (byv_one _) rfl rfl rfl rfl ?_)
  refine wp_gen (fun wx => Blk wx wa.heap.size 30 (byv B) ∧ Rw wa wx) ⟨(Blk.new wa 30 (byv (List.replicate 64 0))).setRow _, below_row (below1 wa _) _ _ (Nat.le_refl _)⟩ ?_
  rintro wb ⟨Bb, Rb⟩
  have Hb : Hid (LQ w wb kb nb wa.heap.size K N B) := Lib.hid ⟨Ha.out.1.rw Rb, Ha.out.2.1.rw Rb, Bb, Rw.out Ha.out.2.2 Rb⟩
  clear Bb Rb Ha H9
  generalize wa.heap.size = bb at *
  go_upto_region 11 with fail
  have HB : Hid (extra.length ≤ 50) := Lib.hid LL.out.2.2.2.2.2.2.2
  have hz0 : Hid (by8 extra = by8 (zer extra 0)) := Lib.hid (by unfold zer; rw [List.replicate_zero, List.append_nil])
  go_loop [13] (fun v13 => ∃ j : Nat, v13 = .string (by8 (zer extra j)) ∧ j ≤ (16 - extra.length % 16) % 16) (fun v => 500 - sLen8 v)
  case atStart => exact ⟨0, congrArg Value.string hz0.out, by omega⟩
  case round =>
    clear hz0
    obtain ⟨j, rfl, hj⟩ := hrel
    obtain ⟨q, hq⟩ : ∃ q, q = (zer extra j).length := ⟨_, rfl⟩
    have hqS : (by8 (zer extra j)).size = q := by rw [by8_size, hq]
    have hq3 : q ≤ 300 := by rw [hq, zer_len]; have := HB.out; omega
    obtain ⟨r, hr⟩ : ∃ r, r = q % 16 := ⟨_, rfl⟩
    have e1 : (q : Int).tmod 16 = (r : Nat) := by rw [Int.tmod_eq_emod_of_nonneg (Int.natCast_nonneg _)]; omega
    have e1' : (q : Int) % 16 = (r : Nat) := by omega
    have hr16 : r < 16 := by omega
    have hnext := zer_succ extra j
    have hnx : Hid (by8 (zer extra j) ++ { data := #[0] } = by8 (zer extra (j + 1))) := Lib.hid (by rw [← hnext, ← by8_app]; rfl)
    rcases Nat.eq_zero_or_pos r with h0 | h0
    · have hpad : zer extra j = Pol.padL extra := zer_pad _ _ hj (by rw [← hq, ← hr]; exact h0)
      have HPP := Lib.hid hpad
      rw [h0] at e1 e1'
      clear hpad hnext hnx h0 hr hq
      have hyy : Hid (by8 (zer extra j) ++ by8 X = by8 (Pol.padL extra ++ X)) := Lib.hid (by rw [HPP.out, by8_app])
      have zX : (by8 X).size ≤ 150 := by rw [by8_size, LL.out.2.2.1]; exact LL.out.2.2.2.2.2.2.1
      go_upto_region 14 with fail
      rw [hyy.out]
      clear hqS hq3 e1 e1' hr16 zX
      obtain ⟨Y, hY⟩ : ∃ Y, Y = Pol.padL extra ++ X := ⟨_, rfl⟩
      rw [← hY]
      have HY := Lib.hid hY
      have HB : Hid (Y.length ≤ 230) := Lib.hid (by rw [hY, List.length_append, LL.out.2.2.1]; have h1 := padL_len extra; have h2 := LL.out.2.2.2.2.2.2; omega)
      clear hY hyy HPP
      have hz0 : Hid (by8 Y = by8 (zer Y 0)) := Lib.hid (by unfold zer; rw [List.replicate_zero, List.append_nil])
      go_loop [13] (fun v13 => ∃ j2 : Nat, v13 = .string (by8 (zer Y j2)) ∧ j2 ≤ (16 - Y.length % 16) % 16) (fun v => 500 - sLen8 v)
      case atStart => exact ⟨0, congrArg Value.string hz0.out, by omega⟩
      case round =>
        clear hz0
        obtain ⟨j2, rfl, hj⟩ := hrel
        obtain ⟨q, hq⟩ : ∃ q, q = (zer Y j2).length := ⟨_, rfl⟩
        have hqS : (by8 (zer Y j2)).size = q := by rw [by8_size, hq]
        have hq3 : q ≤ 300 := by rw [hq, zer_len]; have := HB.out; omega
        obtain ⟨r, hr⟩ : ∃ r, r = q % 16 := ⟨_, rfl⟩
        have e1 : (q : Int).tmod 16 = (r : Nat) := by rw [Int.tmod_eq_emod_of_nonneg (Int.natCast_nonneg _)]; omega
        have e1' : (q : Int) % 16 = (r : Nat) := by omega
        have hr16 : r < 16 := by omega
        have hnext := zer_succ Y j2
        have hnx : Hid (by8 (zer Y j2) ++ { data := #[0] } = by8 (zer Y (j2 + 1))) := Lib.hid (by rw [← hnext, ← by8_app]; rfl)
        rcases Nat.eq_zero_or_pos r with h0 | h0
        · have hpad : zer Y j2 = Pol.padL Y := zer_pad _ _ hj (by rw [← hq, ← hr]; exact h0)
          have HPP := Lib.hid hpad
          rw [h0] at e1 e1'
          clear hpad hnext hnx h0 hr hq
          have hZ : zer Y j2 = PFx extra.length text.length (Pol.padL extra ++ Pol.padL X) 0 := by rw [HPP.out, HY.out, pad_two]; rfl
          obtain ⟨PF, hPF⟩ : ∃ PF, PF = PFx extra.length text.length (Pol.padL extra ++ Pol.padL X) := ⟨_, rfl⟩
          obtain ⟨Ns, hNs⟩ : ∃ Ns, Ns = Nsx extra.length text.length := ⟨_, rfl⟩
          rw [← hPF] at hZ
          have PS : Hid (∀ i, i < 2 → PF (i + 1) = PF i ++ cntN (Ns i) 8) := Lib.hid (by
            rw [hPF, hNs]
            intro i hi
            obtain rfl | rfl : i = 0 ∨ i = 1 := by omega
            · rw [cntN_eight]; rfl
            · rw [cntN_eight]; rfl)
          have PL : Hid (∀ i, i < 2 → (PF i).length ≤ 400 ∧ Ns i ≤ 150) := Lib.hid (by
            have h1 := padL_len extra
            have h2 := padL_len X
            have h3 := LL.out.2.2.1
            have h4 := LL.out.2.2.2.2.2.2
            rw [hPF, hNs]
            intro i hi
            obtain rfl | rfl : i = 0 ∨ i = 1 := by omega
            · show (Pol.padL extra ++ Pol.padL X).length ≤ 400 ∧ extra.length ≤ 150
              rw [List.length_append]; omega
            · show (Pol.padL extra ++ Pol.padL X ++ cntL extra.length).length ≤ 400 ∧ text.length ≤ 150
              rw [List.length_append, List.length_append, cntL_len]; omega)
          have PE : Hid (PF 2 = allL X extra) := Lib.hid (by
            rw [hPF]
            show Pol.padL extra ++ Pol.padL X ++ cntL extra.length ++ cntL text.length = allL X extra
            unfold allL
            rw [LL.out.2.2.1])
          have sE : (by8 extra).size = Ns 0 := by rw [by8_size, hNs]; rfl
          have sT : (by8 text).size = Ns 1 := by rw [by8_size, hNs]; rfl
          clear HPP zx ze hNs hPF HY HB
          replace hZ := Lib.hid hZ
          go_upto_region 17 with fail
          rw [hZ.out]
          clear hqS hq3 e1 e1' hr16 hZ
          refine wp_gen (fun wx => LQ w wx kb nb bb K N B ∧ Blk wx wb.heap.size 3 [.int .i64 (Ns 0 : Nat), .int .i64 (Ns 1 : Nat)]) ⟨Hb.out.rw (below1 _ _), Blk.new _ _ _⟩ ?_
          rintro wc ⟨Lc, Bc⟩
          have Hc := Lib.hid (And.intro Lc Bc)
          clear Lc Bc Hb
          generalize wb.heap.size = sb at *
          go_loopw [13, 76] (fun v13 v76 wx => ∃ i : Nat, v13 = .string (by8 (PF i)) ∧ v76 = .int .i64 i ∧ i ≤ 2 ∧ Hid (LQ w wx kb nb bb K N B ∧ Blk wx sb 3 [.int .i64 (Ns 0 : Nat), .int .i64 (Ns 1 : Nat)])) (fun _ v _ => 3 - (intOf v).toNat)
          case atStart => exact ⟨0, rfl, rfl, by omega, Hc⟩
          case round =>
            obtain ⟨i, rfl, rfl, hi, ho⟩ := hrel
            clear Hc
            rcases Nat.lt_or_ge i 2 with h2 | h2
            · have hd : ((i : Int) < 2) = True := eq_true (by omega)
              have cI : wr.cell? ⟨sb, i, none⟩ = some (.int .i64 (Ns i : Nat)) := by
                obtain rfl | rfl : i = 0 ∨ i = 1 := by omega
                · exact ho.out.2.cell 0 _ rfl
                · exact ho.out.2.cell 1 _ rfl
              have PLi := Lib.hid (PL.out i h2)
              have PSi := Lib.hid (PS.out i h2)
              go_upto_region 20 with fail
              clear zK zK4 xK4 sE sT
              go_loopw [13, 15, 80] (fun v13 v15 v80 wx => ∃ j : Nat, v13 = .string (by8 (PF i ++ cntN (Ns i) j)) ∧ v15 = .int .i64 ((Ns i / 256 ^ j : Nat) : Int) ∧ v80 = .int .i64 j ∧ j ≤ 8 ∧ Hid (LQ w wx kb nb bb K N B ∧ Blk wx sb 3 [.int .i64 (Ns 0 : Nat), .int .i64 (Ns 1 : Nat)])) (fun _ _ v _ => 8 - (intOf v).toNat)
              case atStart => exact ⟨0, by rw [show cntN (Ns i) 0 = [] from rfl, List.append_nil], by rw [Nat.pow_zero, Nat.div_one], rfl, by omega, ho⟩
              case round =>
                obtain ⟨j3, rfl, rfl, rfl, hj3, hs⟩ := hrel
                rcases Nat.lt_or_ge j3 8 with h8 | h8
                · obtain ⟨D, hD⟩ : ∃ D, D = Ns i / 256 ^ j3 := ⟨_, rfl⟩
                  rw [← hD]
                  obtain ⟨b, hb⟩ : ∃ b, b = cntF (Ns i) j3 := ⟨_, rfl⟩
                  have hby := cnt_byte (Ns i) j3
                  rw [← hD, ← hb] at hby
                  obtain ⟨bt, hbt⟩ : ∃ bt, bt = b.toNat := ⟨_, rfl⟩
                  rw [← hbt] at hby
                  have hb256 : bt < 256 := by rw [hbt]; exact b.toNat_lt
                  have g1 : (D : Int).tmod 256 = (bt : Nat) := by rw [Int.tmod_eq_emod_of_nonneg (Int.natCast_nonneg _), ← hby]; rfl
                  have g1' : (D : Int) % 256 = (bt : Nat) := by rw [← hby]; rfl
                  obtain ⟨D2, hD2⟩ : ∃ D2, D2 = D / 256 := ⟨_, rfl⟩
                  have g2 : (D : Int).tdiv 256 = (D2 : Nat) := by rw [Int.tdiv_eq_ediv_of_nonneg (Int.natCast_nonneg _), hD2]; rfl
                  have g2' : (D : Int) / 256 = (D2 : Nat) := by rw [hD2]; rfl
                  have hD3 : Hid (D2 = Ns i / 256 ^ (j3 + 1)) := Lib.hid (by rw [hD2, hD, Nat.pow_succ, Nat.div_div_eq_div_mul])
                  have hDl : D ≤ 150 := by rw [hD]; exact Nat.le_trans (Nat.div_le_self _ _) PLi.out.2
                  have hcv : (convert 25 9 (.slice (some ⟨wr.heap.size, 0, none⟩) 1 1)).run Tryd.prog (wr.alloc (.cells #[.int .u8 (bt : Nat)] 5)) = .ok (.string (by8 [b])) (wr.alloc (.cells #[.int .u8 (bt : Nat)] 5)) := by
                    rw [hbt]
                    exact (Blk.new wr 5 (byv [b])).str8 1 rfl
                  have happ : Hid (by8 (PF i ++ cntN (Ns i) j3) ++ by8 [b] = by8 (PF i ++ cntN (Ns i) (j3 + 1))) := Lib.hid (by rw [by8_app, List.append_assoc, hb, cntN_succ])
                  have zp : (by8 (PF i ++ cntN (Ns i) j3)).size ≤ 408 := by rw [by8_size, List.length_append, cntN_len]; have := PLi.out.1; omega
                  have zb : (by8 [b]).size = 1 := by8_size _
                  have HS : Hid (LQ w (wr.alloc (.cells #[.int .u8 (bt : Nat)] 5)) kb nb bb K N B ∧ Blk (wr.alloc (.cells #[.int .u8 (bt : Nat)] 5)) sb 3 [.int .i64 (Ns 0 : Nat), .int .i64 (Ns 1 : Nat)]) := Lib.hid ⟨hs.out.1.rw (below1 _ _), hs.out.2.rw (below1 _ _)⟩
                  clear hD hb hby hbt hD2 hs
                  go_upto_region 22 with fail
                  rw [happ.out]
                  clear hcv happ zp zb
                  generalize wr.alloc (.cells #[.int .u8 (bt : Nat)] 5) = wq at *
                  go_wp2_with fail
                  go_roundw
                  case rel => exact ⟨j3 + 1, rfl, by rw [hD3.out], val_int (by omega), by omega, HS⟩
                  case measure => simp [intOf]; omega
                · obtain rfl : j3 = 8 := by omega
                  rw [← PSi.out]
                  go_wp2_with fail
                  go_roundw
                  case rel => exact ⟨i + 1, rfl, val_int (by omega), by omega, hs⟩
                  case measure => simp [intOf]; omega
            · obtain rfl : i = 2 := by omega
              have eA : by8 (PF 2) = by8 (allL X extra) := by rw [PE.out]
              rw [eA]
              have hat := fun w' => run_arrayAt (P := Tryd.prog) Tryd.underlying24 ⟨bb, 0, none⟩ 32 64 (Nat.le_refl _) w'
              have HBR : Hid (wr.rangeAt bb 0 (byv (B.take 32))) := Lib.hid (ho.out.1.2.2.1.range 0 _ (fun j v hj => by
                rw [Nat.zero_add]
                rw [show byv (B.take 32) = (byv B).take 32 by simp [byv, List.map_take]] at hj
                rw [List.getElem?_take] at hj
                split at hj
                · exact hj
                · cases hj))
              have LT32 : Hid ((byv (B.take 32)).length = 32) := Lib.hid (by rw [byv_len, List.length_take, LL.out.2.2.2.1]; decide)
              go_upto_region 26 with (first
                | refine wpList_load_mid rfl 24 _ rfl bb 0 rfl (byv (B.take 32)) _ HBR.out Tryd.underlying24 rfl (by rw [LT32.out]; exact arr32_size') ?_
                | (go_at_call 9; refine (hsum.out _).mono ?_; rintro e wd ⟨rfl, hbd⟩; have Hd := Lib.hid (ho.out.1.rw hbd); clear hbd)
                | refine store_blk (Blk.new wd 33 (byv (List.replicate 16 0))) arr16_size LT.out hZ1.out (byv_one _) rfl rfl rfl rfl ?_)
              refine wp_gen (fun wx => Blk wx wd.heap.size 33 (byv TG) ∧ Rw wd wx) ⟨(Blk.new wd 33 (byv (List.replicate 16 0))).setRow _, below_row (below1 wd _) _ _ (Nat.le_refl _)⟩ ?_
              rintro we ⟨Be, Re⟩
              have He := Lib.hid (And.intro (Hd.out.rw Re) Be)
              clear Be Re Hd ho HBR hat eA
              generalize wd.heap.size = tb at *
              have zX : (by8 X).size ≤ 150 := by rw [by8_size, LL.out.2.2.1]; exact LL.out.2.2.2.2.2.2.1
              have zT : (by8 TG).size = 16 := by rw [by8_size]; exact LL.out.2.2.2.2.1
              have hXT : by8 X ++ by8 TG = by8 (X ++ TG) := by8_app _ _
              have Hy : Hid (Blk (we.drewN 1) kb 24 (byv K) ∧ Blk (we.drewN 1) nb 27 (byv N) ∧ Below w.heap.size w (we.drewN 1)) := Lib.hid ⟨He.out.1.1.drew 1, He.out.1.2.1.drew 1, Rw.out He.out.1.2.2.2 (below_drewN (Below.refl _ _) 1)⟩
              have hct : Hid (∀ w', Rw (we.drewN 1) w' → (convert 25 9 (.slice (some ⟨tb, 0, none⟩) 16 16)).run Tryd.prog w' = .ok (.string (by8 TG)) w') := Lib.hid fun w' h => ((He.out.2.drew 1).rw h).str8 16 LL.out.2.2.2.2.1.symm
              have hct' := hct.out
              (refine region_quiet (C := fun w' => Rw (we.drewN 1) w') (by kernel_rfl) (by kernel_rfl) (Rw.refl _) ?_)
              (with_reducible refine wpQuiet_step (fun KK hK => ?_)); refine quiet_loadB (n := 32) (fun w' hw' => Hy.out.1.rw hw') Tryd.underlying24 rfl arr32_size' LK.out.1 (by first | rfl | simp [Region.wanted, yielded]) rfl (by go_simp) ?_; go_simp; (with_reducible apply hK); clear hK KK
              (with_reducible refine wpQuiet_step (fun KK hK => ?_)); refine quiet_loadB (n := 12) (fun w' hw' => Hy.out.2.1.rw hw') Tryd.underlying27 rfl arr12_size LN.out (by first | rfl | simp [Region.wanted, yielded]) rfl (by go_simp) ?_; go_simp; (with_reducible apply hK); clear hK KK
              (iterate 4 ((with_reducible refine wpQuiet_step (fun K hK => ?_)); refine quiet_autoE (by first | rfl | simp [Region.wanted, yielded]) ?_; apply Exists.intro; refine ⟨fun w' hw' => ?_, ?_⟩; (focus (go_simp; (first | done | rfl | ((try go_ints); (try simp only [↓IntWalk.iteOmega, true_and]); (try go_simp); (first | done | rfl))))); go_simp; (with_reducible apply hK); clear hK K))
              (iterate 1 ((with_reducible refine wpQuiet_step (fun K hK => ?_)); refine quiet_autoE (by first | rfl | simp [Region.wanted, yielded]) ?_; apply Exists.intro; refine ⟨fun w' hw' => ?_, ?_⟩; (focus (go_simp; (first | done | rfl | ((try go_ints); (try simp only [↓IntWalk.iteOmega, true_and]); (try go_simp); (first | done | rfl))))); go_simp; (with_reducible apply hK); clear hK K))
              ((with_reducible refine wpQuiet_step (fun K hK => ?_)); refine quiet_callE (by first | rfl | simp [Region.wanted, yielded]) ?_; apply Exists.intro; apply Exists.intro; refine ⟨fun w' => ?_, ?_⟩; (focus (go_simp; try (first | exact ⟨rfl, rfl⟩ | rfl))); apply Exists.intro; refine ⟨fun w' hw' => quiet_below hw' (hopen.out w' (Rw.out Hy.out.2.2 hw')), ?_⟩; go_simp; (with_reducible apply hK); clear hK K)
              (repeat ((with_reducible refine wpQuiet_step (fun K hK => ?_)); refine quiet_autoE (by first | rfl | simp [Region.wanted, yielded]) ?_; apply Exists.intro; refine ⟨fun w' hw' => ?_, ?_⟩; (focus (go_simp; (first | done | rfl | ((try go_ints); (try simp only [↓IntWalk.iteOmega, true_and]); (try go_simp); (first | done | rfl))))); go_simp; (with_reducible apply hK); clear hK K))
              refine wpQuiet_nil ?_
              intro wf hf
              have Hf := Lib.hid (And.intro (He.out.1.rw (Rw.trans (below_drewN (Below.refl _ _) 1) hf)) (He.out.2.rw (Rw.trans (below_drewN (Below.refl _ _) 1) hf)))
              clear hf He Hy hct hct'
              go_upto_region 27 with fail
              have Hy : Hid (Blk (wf.drewN 1) kb 24 (byv K) ∧ Blk (wf.drewN 1) nb 27 (byv N) ∧ Below w.heap.size w (wf.drewN 1)) := Lib.hid ⟨Hf.out.1.1.drew 1, Hf.out.1.2.1.drew 1, Rw.out Hf.out.1.2.2.2 (below_drewN (Below.refl _ _) 1)⟩
              have hct : Hid (∀ w', Rw (wf.drewN 1) w' → (convert 25 9 (.slice (some ⟨tb, 0, none⟩) 16 16)).run Tryd.prog w' = .ok (.string (by8 TG)) w') := Lib.hid fun w' h => ((Hf.out.2.drew 1).rw h).str8 16 LL.out.2.2.2.2.1.symm
              have hct' := hct.out
              (refine region_quiet (C := fun w' => Rw (wf.drewN 1) w') (by kernel_rfl) (by kernel_rfl) (Rw.refl _) ?_)
              (with_reducible refine wpQuiet_step (fun KK hK => ?_)); refine quiet_loadB (n := 32) (fun w' hw' => Hy.out.1.rw hw') Tryd.underlying24 rfl arr32_size' LK.out.1 (by first | rfl | simp [Region.wanted, yielded]) rfl (by go_simp) ?_; go_simp; (with_reducible apply hK); clear hK KK
              (with_reducible refine wpQuiet_step (fun KK hK => ?_)); refine quiet_loadB (n := 12) (fun w' hw' => Hy.out.2.1.rw hw') Tryd.underlying27 rfl arr12_size LN.out (by first | rfl | simp [Region.wanted, yielded]) rfl (by go_simp) ?_; go_simp; (with_reducible apply hK); clear hK KK
              (iterate 2 ((with_reducible refine wpQuiet_step (fun K hK => ?_)); refine quiet_autoE (by first | rfl | simp [Region.wanted, yielded]) ?_; apply Exists.intro; refine ⟨fun w' hw' => ?_, ?_⟩; (focus (go_simp; (first | done | rfl | ((try go_ints); (try simp only [↓IntWalk.iteOmega, true_and]); (try go_simp); (first | done | rfl))))); go_simp; (with_reducible apply hK); clear hK K))
              ((with_reducible refine wpQuiet_step (fun K hK => ?_)); refine quiet_callE (by first | rfl | simp [Region.wanted, yielded]) ?_; apply Exists.intro; apply Exists.intro; refine ⟨fun w' => ?_, ?_⟩; (focus (go_simp; try (first | exact ⟨rfl, rfl⟩ | rfl))); apply Exists.intro; refine ⟨fun w' hw' => quiet_below hw' (hseal.out w' (Rw.out Hy.out.2.2 hw')), ?_⟩; go_simp; (with_reducible apply hK); clear hK K)
              (repeat ((with_reducible refine wpQuiet_step (fun K hK => ?_)); refine quiet_autoE (by first | rfl | simp [Region.wanted, yielded]) ?_; apply Exists.intro; refine ⟨fun w' hw' => ?_, ?_⟩; (focus (go_simp; (first | done | rfl | ((try go_ints); (try simp only [↓IntWalk.iteOmega, true_and]); (try go_simp); (first | done | rfl))))); go_simp; (with_reducible apply hK); clear hK K))
              refine wpQuiet_nil ?_
              intro wg hh
              have Hg := Lib.hid (Rw.out Hy.out.2.2 hh)
              clear hh Hy hct hct' Hf
              go_wp2_with fail
              go_ret
              exact ⟨rfl, Hg.out⟩
        · have hjn : j2 + 1 ≤ (16 - Y.length % 16) % 16 := by rw [zer_len] at hq; omega
          have hne : ((r : Int) = 0) = False := eq_false (by omega)
          have hne' : ((r : Int) == 0) = false := by rw [beq_eq_false_iff_ne]; omega
          clear hnext h0 hr
          have HQ := Lib.hid hq
          clear hq
          go_wp2_with fail
          rw [hnx.out]
          go_round
          case rel => exact ⟨j2 + 1, rfl, hjn⟩
          case measure =>
            show 500 - (by8 (zer Y (j2 + 1))).size < 500 - (by8 (zer Y j2)).size
            rw [by8_size, by8_size, zer_len, zer_len]
            rw [zer_len] at HQ
            have := HQ.out
            omega

    · have hjn : j + 1 ≤ (16 - extra.length % 16) % 16 := by rw [zer_len] at hq; omega
      have hne : ((r : Int) = 0) = False := eq_false (by omega)
      have hne' : ((r : Int) == 0) = false := by rw [beq_eq_false_iff_ne]; omega
      clear hnext h0 hr
      have HQ := Lib.hid hq
      clear hq
      go_wp2_with fail
      rw [hnx.out]
      go_round
      case rel => exact ⟨j + 1, rfl, hjn⟩
      case measure =>
        show 500 - (by8 (zer extra (j + 1))).size < 500 - (by8 (zer extra j)).size
        rw [by8_size, by8_size, zer_len, zer_len]
        rw [zer_len] at HQ
        have := HQ.out
        omega
end Go.Proofs.YtppjniogblgdcaaDoor
