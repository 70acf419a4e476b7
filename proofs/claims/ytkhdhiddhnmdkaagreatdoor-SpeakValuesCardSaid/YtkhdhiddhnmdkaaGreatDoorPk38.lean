/-
poly: filled, count, mark, Seal.
hmac.Same of equals; poly: Seal, Open.
A region that draws its order and in which ONE operation (number n) writes, while all others are quiet before it and behind it: one walk of the lexical order serves every order.
After the library's Derived/Deep/Quiet.lean, with two classes of worlds: 'D false' ahead of the writer, 'D true' behind it.
-/
import Derived.Deep.Quiet
import Derived.Test.YtkhdhiddhnmdkaaGreatDoorPk37
import Derived.Test.YtkhdhiddhnmdkaaGreatDoorPk08
import Derived.Test.YtkhdhiddhnmdkaaGreatDoorPk01
namespace Go.Proofs.YtkhdhiddhnmdkaaGreatDoor
open Go.RowKit Pol Cha
set_option maxRecDepth 100000
theorem rep0 (c : Nat) : (⟨(Lib.repeatL (ByteArray.data ⟨#[0]⟩).toList c).toArray⟩ : ByteArray) = by8 (List.replicate c 0) := by
  show (⟨(Lib.repeatL [0] c).toArray⟩ : ByteArray) = _
  have := Lib.repeatL_replicate 0 1 c
  rw [Nat.mul_one] at this
  rw [show ([0] : List UInt8) = List.replicate 1 0 from rfl, this]
  rfl
namespace Pol
def padL (l : List UInt8) : List UInt8 := l ++ List.replicate ((16 - l.length % 16) % 16) 0
theorem padL_len (l : List UInt8) : (padL l).length ≤ l.length + 15 := by
  unfold padL
  have : (16 - l.length % 16) % 16 < 16 := Nat.mod_lt _ (by decide)
  rw [List.length_append, List.length_replicate]; omega
def cntF (n j : Nat) : UInt8 := lo8 ((n : Int) / 2 ^ (8 * j))
def cntL (n : Nat) : List UInt8 := upto8 (cntF n) (fun _ => 0) 8 8
theorem cntL_len (n : Nat) : (cntL n).length = 8 := upto8_len _ _ _ _
end Pol
theorem filled_ok (l : List UInt8) (hl : l.length ≤ 100000) (w : World) : Calls Tryz.prog 98 #[.string (by8 l)] w fun e w' => e = .returned (.string (by8 (padL l))) ∧ Rw w w' := by
  obtain ⟨n, hn⟩ : ∃ n, n = l.length := ⟨_, rfl⟩
  have hS : (by8 l).size = n := by rw [by8_size, hn]
  obtain ⟨r, hr⟩ : ∃ r, r = n % 16 := ⟨_, rfl⟩
  have e1 : (n : Int).tmod 16 = (r : Nat) := by rw [Int.tmod_eq_emod_of_nonneg (Int.natCast_nonneg _)]; omega
  have e1' : (n : Int) % 16 = (r : Nat) := by omega
  obtain ⟨c, hc⟩ : ∃ c, c = (16 - r) % 16 := ⟨_, rfl⟩
  have e2 : ((16 : Int) - r).tmod 16 = (c : Nat) := by rw [Int.tmod_eq_emod_of_nonneg (by omega)]; omega
  have e2' : ((16 : Int) - r) % 16 = (c : Nat) := by omega
  have hc16 : c < 16 := by omega
  have hn1 : n ≤ 100000 := by omega
  have hr16 : r < 16 := by omega
  have HA : Hid (by8 l ++ by8 (List.replicate c 0) = by8 (padL l)) := Lib.hid (by rw [by8_app, hc, hr, hn]; rfl)
  have HREP := Lib.hid (fun w => sh_repeat ⟨#[0]⟩ c w (by omega) (by show 1 * c ≤ _; omega))
  have hsz2 := by8_size (List.replicate c (0 : UInt8))
  rw [List.length_replicate] at hsz2
  clear hn hr hc hl
  go_enter Tryz.func98, Tryz.ntmps98
  go_wp2_with (go_at_call 53; refine (HREP.out _).mono ?_; rw [rep0]; rintro e w4 ⟨rfl, hb4⟩)
  go_ret
  exact ⟨by rw [HA.out]; rfl, hb4⟩
theorem count_ok (n : Nat) (hn : n ≤ 100000) (w : World) : Calls Tryz.prog 99 #[.int .i64 n] w fun e w' => e = .returned (.string (by8 (cntL n))) ∧ Rw w w' := by
  obtain ⟨F, hF⟩ : ∃ F : Nat → UInt8, F = cntF n := ⟨_, rfl⟩
  have HF := Lib.hid hF
  clear hF
  go_enter Tryz.func99, Tryz.ntmps99
  go_upto_region 2 with fail
  have H1 : Hid (Blk (w.alloc (.cells (byv (upto8 F (fun _ => 0) 8 0)).toArray 175)) w.heap.size 175 (byv (upto8 F (fun _ => 0) 8 0)) ∧ Below w.heap.size w (w.alloc (.cells (byv (upto8 F (fun _ => 0) 8 0)).toArray 175))) := Lib.hid ⟨Blk.new _ _ _, below1 _ _⟩
  change Code.wp _ _ _ _ (w.alloc (.cells (byv (upto8 F (fun _ => 0) 8 0)).toArray 175))
  generalize w.alloc (.cells (byv (upto8 F (fun _ => 0) 8 0)).toArray 175) = w1 at *
  go_wp2_with fail
  go_loopw [5] (fun v5 wx => ∃ j : Nat, v5 = .int .i64 j ∧ j ≤ 8 ∧ Hid (Blk wx w.heap.size 175 (byv (upto8 F (fun _ => 0) 8 j)) ∧ Below w.heap.size w wx)) (fun v _ => 8 - (intOf v).toNat)
  case atStart => exact ⟨0, rfl, by omega, H1⟩
  case round =>
    obtain ⟨j, rfl, hj, hs⟩ := hrel
    clear H1
    rcases Nat.lt_or_ge j 8 with h16 | h16
    · have c0 := hs.out.1.cell j _ (byv_get _ j (by rw [upto8_len]; exact h16))
      have f0 := hs.out.1.free j
      have hv : (n : Int) / 2 ^ (8 * j) % 256 = ((F j).toNat : Nat) := by rw [HF.out]; exact lo8_val' _
      go_upto_region 6 with fail
      rw [hv]
      have HN2 : Hid (Blk (wr.setCell ⟨w.heap.size, j, none⟩ (.int .u8 ((F j).toNat : Nat))) w.heap.size 175 (byv (upto8 F (fun _ => 0) 8 (j + 1))) ∧ Below w.heap.size w (wr.setCell ⟨w.heap.size, j, none⟩ (.int .u8 ((F j).toNat : Nat)))) := Lib.hid (by
        obtain ⟨h2, h1⟩ := hs.out
        refine ⟨?_, below_set' h1 _ _ _ (Nat.le_refl _)⟩
        have := h2.set j (.int .u8 ((F j).toNat : Nat))
        rw [byv_set, upto8_set] at this
        exact this)
      clear hv c0 f0 hs
      go_wp2_with fail
      go_roundw
      case rel => exact ⟨j + 1, val_int (by omega), by omega, HN2⟩
      case measure => simp [intOf]; omega
    · obtain rfl : j = 8 := by omega
      have hcv := hs.out.1.str8 8 (by rw [upto8_len])
      go_wp2_with fail
      go_ret
      exact ⟨by rw [HF.out]; rfl, hs.out.2⟩
namespace Pol
def allL (x extra : List UInt8) : List UInt8 := padL extra ++ padL x ++ cntL extra.length ++ cntL x.length
def mrkL (Bg : List Int) (Or : List Nat) (key nonce x extra : List UInt8) : List UInt8 := sumP ((blockF Bg Or key 0 nonce).take 32) (allL x extra)
theorem mrkL_len (Bg : List Int) (Or : List Nat) (key nonce x extra : List UInt8) : (mrkL Bg Or key nonce x extra).length = 16 := sumP_len _ _
def sealL (Bg : List Int) (Or : List Nat) (key nonce text extra : List UInt8) : List UInt8 :=
  xorF Bg Or key 1 nonce text ++ mrkL Bg Or key nonce (xorF Bg Or key 1 nonce text) extra
end Pol
theorem run_alloc16 (w : World) : (Instr.alloc 151 true (.tuple #[])).run Tryz.prog w = .ok (.pointer (some ⟨w.heap.size, 0, none⟩)) (w.alloc (.cells (byv (List.replicate 16 0)).toArray 151)) := by kernel_rfl
set_option maxHeartbeats 4000000 in
theorem mark_ok (Bg : List Int) (Or : List Nat) (key nonce x extra : List UInt8) (hx : x.length ≤ 90000) (he : extra.length ≤ 90000) (w : World) (hT : ChaT w Bg Or) (hk : key.length = 32) (hn : nonce.length = 12) (hg : 4 < w.heap.size ∧ 5 < w.heap.size) :
    Calls Tryz.prog 80 #[.agg (byv key).toArray, .agg (byv nonce).toArray, .string (by8 x), .string (by8 extra)] w fun e w' => e = .returned (.string (by8 (mrkL Bg Or key nonce x extra))) ∧ Below w.heap.size w w' := by
  have hbk : Hid (∀ w', Below w.heap.size w w' → Calls Tryz.prog 96 #[.agg (byv key).toArray, .int .u32 0, .agg (byv nonce).toArray] w' fun e w'' => e = .returned (.agg (byv (blockF Bg Or key 0 nonce)).toArray) ∧ Below w'.heap.size w' w'') := Lib.hid fun w' hb => by
    have := hb.size
    exact block_ok Bg Or key nonce 0 w' (hT.below hb) hk hn ⟨by omega, by omega⟩
  obtain ⟨B, hB⟩ : ∃ B, B = blockF Bg Or key 0 nonce := ⟨_, rfl⟩
  have hB64 : B.length = 64 := by rw [hB]; exact block_len _ _ _ _ _
  rw [← hB] at hbk
  obtain ⟨R, hR⟩ : ∃ R, R = sumP (B.take 32) (allL x extra) := ⟨_, rfl⟩
  have hgoal : mrkL Bg Or key nonce x extra = R := by rw [hR, hB]; rfl
  rw [hgoal]
  have h16 : R.length = 16 := by rw [hR]; exact sumP_len _ _
  have S1 : ∀ w, Calls Tryz.prog 97 #[.agg (byv (B.take 32)).toArray, .string (by8 (padL extra) ++ by8 (padL x) ++ by8 (cntL extra.length) ++ by8 (cntL x.length))] w fun e w' => e = .returned (.agg (byv R).toArray) ∧ Rw w w' := fun w => by
    have := psum_ok (B.take 32) (allL x extra) (by rw [List.length_take]; omega) (by
      have h1 := padL_len extra; have h2 := padL_len x
      unfold allL
      simp only [List.length_append, cntL_len]; omega) w
    rw [← hR] at this
    rw [by8_app, by8_app, by8_app]
    exact this
  have f1 := filled_ok extra (by omega)
  have f2 := filled_ok x (by omega)
  have c1 := count_ok extra.length (by omega)
  have c2 := count_ok x.length (by omega)
  have z1 : (by8 (padL extra)).size ≤ 90015 := by rw [by8_size]; have := padL_len extra; omega
  have z2 : (by8 (padL x)).size ≤ 90015 := by rw [by8_size]; have := padL_len x; omega
  have z3 : (by8 (cntL extra.length)).size = 8 := by rw [by8_size, cntL_len]
  have z4 : (by8 (cntL x.length)).size = 8 := by rw [by8_size, cntL_len]
  have s1 : (by8 extra).size = extra.length := by8_size _
  have s2 : (by8 x).size = x.length := by8_size _
  generalize padL extra = p1 at *
  generalize padL x = p2 at *
  generalize cntL extra.length = q1 at *
  generalize cntL x.length = q2 at *
  generalize extra.length = n1 at *
  generalize x.length = n2 at *
  have LK : Hid ((byv key).length = 32) := Lib.hid (by rw [byv_len]; exact hk)
  have LN : Hid ((byv nonce).length = 12) := Lib.hid (by rw [byv_len]; exact hn)
  have LB : Hid ((byv B).length = 64) := Lib.hid (by rw [byv_len]; exact hB64)
  have LR : Hid ((byv R).length = 16) := Lib.hid (by rw [byv_len]; exact h16)
  have LT : Hid ((byv (B.take 32)).length = 32) := Lib.hid (by rw [byv_len, List.length_take]; omega)
  have HC := Lib.hid (And.intro S1 (And.intro f1 (And.intro f2 (And.intro c1 (And.intro c2 h16)))))
  clear hB hB64 hR hgoal S1 f1 f2 c1 c2 hx he hT hk hn hg h16
  go_enter Tryz.func80, Tryz.ntmps80
  go_upto_region 1 with fail
  refine wp_gen (fun wx => Blk wx w.heap.size 48 (byv key) ∧ Blk wx (w.heap.size + 1) 99 (byv nonce) ∧ Below w.heap.size w wx) ⟨(Blk.new w _ (byv key)).alloc _, Blk.new2 _ _ _ (byv nonce), below2 _ _ _⟩ ?_
  rintro w1 ⟨B1, B2, BW⟩
  have H1 := Lib.hid (And.intro B1 (And.intro B2 BW))
  clear B1 B2 BW
  have hZ64 : Hid ((byv (List.replicate 64 (0 : UInt8))).length = 64) := Lib.hid rfl
  go_upto_region 2 with (first
    | refine wpList_load_mid rfl 48 _ rfl w.heap.size 0 rfl (byv key) _ (blk_range H1.out.1) Tryz.underlying48 rfl (by rw [LK.out]; exact arr32_size') ?_
    | refine wpList_load_mid rfl 99 _ rfl (w.heap.size + 1) 0 rfl (byv nonce) _ (blk_range H1.out.2.1) Tryz.underlying99 rfl (by rw [LN.out]; exact arr12_size) ?_
    | (go_at_call 96; refine (hbk.out _ H1.out.2.2).mono ?_; rintro e w2 ⟨rfl, hb2⟩; have H2 := Lib.hid (Rw.out H1.out.2.2 hb2); clear hb2)
    | refine store_blk (Blk.new w2 55 (byv (List.replicate 64 0))) arr64_size LB.out hZ64.out (byv_one _) rfl rfl rfl rfl ?_)
  refine wp_gen (fun wx => Blk wx w2.heap.size 55 (byv B) ∧ Below w.heap.size w wx) ⟨(Blk.new w2 55 (byv (List.replicate 64 0))).setRow (byv B), below_row (Rw.out H2.out (below1 _ _)) _ _ H2.out.size⟩ ?_
  rintro w3 ⟨B3, BW3⟩
  have H3 := Lib.hid (And.intro B3 BW3)
  clear B3 BW3 H1 H2 hbk hZ64
  generalize w2.heap.size = bb at *
  have hat := fun w' => run_arrayAt (P := Tryz.prog) Tryz.underlying48 ⟨bb, 0, none⟩ 32 64 (Nat.le_refl _) w'
  have D : Hid (∀ w', Rw w3.drew w' → w'.rangeAt bb 0 (byv (B.take 32))) := Lib.hid fun w' h => ((H3.out.1.drew 1).rw h).range 0 _ (fun j v hj => by
    rw [Nat.zero_add]
    rw [show byv (B.take 32) = (byv B).take 32 by simp [byv, List.map_take]] at hj
    rw [List.getElem?_take] at hj
    split at hj
    · exact hj
    · cases hj)
  (refine wp_region_drift 17 (by kernel_rfl) (by kernel_rfl) ?_; simp only [List.take_succ_cons, List.take_zero, List.drop_succ_cons, List.drop_zero])
  (iterate 2 (refine drift_step (fun K hK => ?_); refine drift_autoE (by first | rfl | simp [Region.wanted, yielded]) ?_; apply Exists.intro; refine ⟨fun w' hw' => ?_, ?_⟩; (focus (go_simp; (first | done | rfl | ((try go_ints); (try simp only [↓IntWalk.iteOmega, true_and]); (try go_simp); (first | done | rfl))))); go_simp; (with_reducible apply hK); clear hK K))
  (refine drift_step (fun K hK => ?_); refine drift_loadN (fun w' hw' => D.out w' hw') Tryz.underlying48 rfl (by rw [LT.out]; exact arr32_size') (by first | rfl | simp [Region.wanted, yielded]) rfl (by go_simp) ?_; go_simp; (with_reducible apply hK); clear hK K)
  (iterate 1 (refine drift_step (fun K hK => ?_); refine drift_autoE (by first | rfl | simp [Region.wanted, yielded]) ?_; apply Exists.intro; refine ⟨fun w' hw' => ?_, ?_⟩; (focus (go_simp; (first | done | rfl | ((try go_ints); (try simp only [↓IntWalk.iteOmega, true_and]); (try go_simp); (first | done | rfl))))); go_simp; (with_reducible apply hK); clear hK K))
  (refine drift_step (fun K hK => ?_); refine drift_callE (by first | rfl | simp [Region.wanted, yielded]) ?_; apply Exists.intro; apply Exists.intro; refine ⟨fun w' => ?_, ?_⟩; (focus (go_simp; try (first | exact ⟨rfl, rfl⟩ | rfl))); apply Exists.intro; refine ⟨fun w' hw' => HC.out.2.1 w', ?_⟩; go_simp; (with_reducible apply hK); clear hK K)
  (iterate 1 (refine drift_step (fun K hK => ?_); refine drift_autoE (by first | rfl | simp [Region.wanted, yielded]) ?_; apply Exists.intro; refine ⟨fun w' hw' => ?_, ?_⟩; (focus (go_simp; (first | done | rfl | ((try go_ints); (try simp only [↓IntWalk.iteOmega, true_and]); (try go_simp); (first | done | rfl))))); go_simp; (with_reducible apply hK); clear hK K))
  (refine drift_step (fun K hK => ?_); refine drift_callE (by first | rfl | simp [Region.wanted, yielded]) ?_; apply Exists.intro; apply Exists.intro; refine ⟨fun w' => ?_, ?_⟩; (focus (go_simp; try (first | exact ⟨rfl, rfl⟩ | rfl))); apply Exists.intro; refine ⟨fun w' hw' => HC.out.2.2.1 w', ?_⟩; go_simp; (with_reducible apply hK); clear hK K)
  (iterate 3 (refine drift_step (fun K hK => ?_); refine drift_autoE (by first | rfl | simp [Region.wanted, yielded]) ?_; apply Exists.intro; refine ⟨fun w' hw' => ?_, ?_⟩; (focus (go_simp; (first | done | rfl | ((try go_ints); (try simp only [↓IntWalk.iteOmega]); (try go_simp); (first | done | rfl))))); go_simp; (with_reducible apply hK); clear hK K))
  (refine drift_step (fun K hK => ?_); refine drift_callE (by first | rfl | simp [Region.wanted, yielded]) ?_; apply Exists.intro; apply Exists.intro; refine ⟨fun w' => ?_, ?_⟩; (focus (go_simp; try (first | exact ⟨rfl, rfl⟩ | rfl))); apply Exists.intro; refine ⟨fun w' hw' => HC.out.2.2.2.1 w', ?_⟩; go_simp; (with_reducible apply hK); clear hK K)
  (iterate 3 (refine drift_step (fun K hK => ?_); refine drift_autoE (by first | rfl | simp [Region.wanted, yielded]) ?_; apply Exists.intro; refine ⟨fun w' hw' => ?_, ?_⟩; (focus (go_simp; (first | done | rfl | ((try go_ints); (try simp only [↓IntWalk.iteOmega]); (try go_simp); (first | done | rfl))))); go_simp; (with_reducible apply hK); clear hK K))
  (refine drift_step (fun K hK => ?_); refine drift_callE (by first | rfl | simp [Region.wanted, yielded]) ?_; apply Exists.intro; apply Exists.intro; refine ⟨fun w' => ?_, ?_⟩; (focus (go_simp; try (first | exact ⟨rfl, rfl⟩ | rfl))); apply Exists.intro; refine ⟨fun w' hw' => HC.out.2.2.2.2.1 w', ?_⟩; go_simp; (with_reducible apply hK); clear hK K)
  (iterate 1 (refine drift_step (fun K hK => ?_); refine drift_autoE (by first | rfl | simp [Region.wanted, yielded]) ?_; apply Exists.intro; refine ⟨fun w' hw' => ?_, ?_⟩; (focus (go_simp; (first | done | rfl | ((try go_ints); (try simp only [↓IntWalk.iteOmega]); (try go_simp); (first | done | rfl))))); go_simp; (with_reducible apply hK); clear hK K))
  (refine drift_step (fun K hK => ?_); refine drift_callE (by first | rfl | simp [Region.wanted, yielded]) ?_; apply Exists.intro; apply Exists.intro; refine ⟨fun w' => ?_, ?_⟩; (focus (go_simp; try (first | exact ⟨rfl, rfl⟩ | rfl))); apply Exists.intro; refine ⟨fun w' hw' => HC.out.1 w', ?_⟩; go_simp; (with_reducible apply hK); clear hK K)
  refine drift_nil ?_
  refine drift_newG run_alloc16 arr16_size rfl LR.out (byv_one _) rfl rfl rfl rfl rfl rfl (Nat.le_of_ble_eq_true rfl) (fun v => rfl) (fun b4 w4 hb4 R4 B4 => ?_)
  have H4 : Hid (Below w.heap.size w w4) := Lib.hid (Rw.out (Rw.out H3.out.2 (below_drewN (Below.refl _ _) 1)) R4)
  have hcv := B4.str8 16 HC.out.2.2.2.2.2.symm
  clear R4 hb4
  go_simp
  go_wp2_with fail
  go_ret
  exact ⟨rfl, H4.out⟩
end Go.Proofs.YtkhdhiddhnmdkaaGreatDoor

namespace Go.Proofs.YtkhdhiddhnmdkaaGreatDoor
open Go.RowKit Pol Cha
set_option maxRecDepth 100000
theorem xor_self8 (a : UInt8) : bits .xor .u8 (a.toNat : Int) (a.toNat : Int) = 0 := by
  rw [show bits .xor .u8 (a.toNat : Int) (a.toNat : Int) = (((a ^^^ a).toNat : Nat) : Int) from xor_u8 a a, UInt8.xor_self]; rfl
theorem or_00 : bits .or .u8 0 0 = 0 := by decide
set_option maxHeartbeats 4000000 in
theorem seal_ok (Bg : List Int) (Or : List Nat) (key nonce text extra : List UInt8) (hx : text.length ≤ 90000) (he : extra.length ≤ 90000) (w : World) (hT : ChaT w Bg Or) (hk : key.length = 32) (hn : nonce.length = 12) (hg : 4 < w.heap.size ∧ 5 < w.heap.size) :
    Calls Tryz.prog 48 #[.agg (byv key).toArray, .agg (byv nonce).toArray, .string (by8 text), .string (by8 extra)] w fun e w' => e = .returned (.string (by8 (sealL Bg Or key nonce text extra))) ∧ Below w.heap.size w w' := by
  obtain ⟨X, hX⟩ : ∃ X, X = xorF Bg Or key 1 nonce text := ⟨_, rfl⟩
  have hXl : X.length = text.length := by rw [hX]; exact xorF_len _ _ _ _ _ _
  obtain ⟨M, hM⟩ : ∃ M, M = mrkL Bg Or key nonce X extra := ⟨_, rfl⟩
  have hxo : Hid (∀ w', Below w.heap.size w w' → Calls Tryz.prog 79 #[.agg (byv key).toArray, .int .u32 1, .agg (byv nonce).toArray, .string (by8 text)] w' fun e w'' => e = .returned (.string (by8 X)) ∧ Below w'.heap.size w' w'') := Lib.hid fun w' hb => by
    have := hb.size
    rw [hX]
    exact xor_ok Bg Or key nonce 1 text (by omega) w' (hT.below hb) hk hn ⟨by omega, by omega⟩
  have hmk : Hid (∀ w', Below w.heap.size w w' → Calls Tryz.prog 80 #[.agg (byv key).toArray, .agg (byv nonce).toArray, .string (by8 X), .string (by8 extra)] w' fun e w'' => e = .returned (.string (by8 M)) ∧ Below w'.heap.size w' w'') := Lib.hid fun w' hb => by
    have := hb.size
    rw [hM]
    exact mark_ok Bg Or key nonce X extra (by omega) he w' (hT.below hb) hk hn ⟨by omega, by omega⟩
  have hgoal : sealL Bg Or key nonce text extra = X ++ M := by rw [hM, hX]; rfl
  rw [hgoal]
  have sX : (by8 X).size ≤ 90000 := by rw [by8_size]; omega
  have sM : (by8 M).size = 16 := by rw [by8_size, hM]; exact mrkL_len _ _ _ _ _ _
  have HA : Hid (by8 X ++ by8 M = by8 (X ++ M)) := Lib.hid (by8_app _ _)
  have LK : Hid ((byv key).length = 32) := Lib.hid (by rw [byv_len]; exact hk)
  have LN : Hid ((byv nonce).length = 12) := Lib.hid (by rw [byv_len]; exact hn)
  clear hX hXl hM hgoal hx he hT hk hn hg
  go_enter Tryz.func48, Tryz.ntmps48
  go_upto_region 1 with fail
  refine wp_gen (fun wx => Blk wx w.heap.size 48 (byv key) ∧ Blk wx (w.heap.size + 1) 99 (byv nonce) ∧ Below w.heap.size w wx) ⟨(Blk.new w _ (byv key)).alloc _, Blk.new2 _ _ _ (byv nonce), below2 _ _ _⟩ ?_
  rintro w1 ⟨B1, B2, BW⟩
  have H1 := Lib.hid (And.intro B1 (And.intro B2 BW))
  clear B1 B2 BW
  go_upto_region 2 with (first
    | refine wpList_load_mid rfl 48 _ rfl w.heap.size 0 rfl (byv key) _ (blk_range H1.out.1) Tryz.underlying48 rfl (by rw [LK.out]; exact arr32_size') ?_
    | refine wpList_load_mid rfl 99 _ rfl (w.heap.size + 1) 0 rfl (byv nonce) _ (blk_range H1.out.2.1) Tryz.underlying99 rfl (by rw [LN.out]; exact arr12_size) ?_
    | (go_at_call 79; refine (hxo.out _ H1.out.2.2).mono ?_; rintro e w2 ⟨rfl, hb2⟩; have H2 := Lib.hid (And.intro (H1.out.1.rw hb2) (And.intro (H1.out.2.1.rw hb2) (Rw.out H1.out.2.2 hb2))); clear hb2))
  go_wp2_with (first
    | refine wpList_load_mid rfl 48 _ rfl w.heap.size 0 rfl (byv key) _ (blk_range H2.out.1) Tryz.underlying48 rfl (by rw [LK.out]; exact arr32_size') ?_
    | refine wpList_load_mid rfl 99 _ rfl (w.heap.size + 1) 0 rfl (byv nonce) _ (blk_range H2.out.2.1) Tryz.underlying99 rfl (by rw [LN.out]; exact arr12_size) ?_
    | (go_at_call 80; refine (hmk.out _ H2.out.2.2).mono ?_; rintro e w3 ⟨rfl, hb3⟩; have H3 := Lib.hid (Rw.out H2.out.2.2 hb3); clear hb3))
  go_ret
  exact ⟨by rw [HA.out]; rfl, H3.out⟩
end Go.Proofs.YtkhdhiddhnmdkaaGreatDoor

namespace Go.Proofs.YtkhdhiddhnmdkaaGreatDoor
open Go.RowKit
variable {P : Program} {md : Region.Mode} {ops : Array Oper} {D : Bool → World → Prop} {n : Nat}

def upon2 (P : Program) (E : World → Prop) (v : Value) : Result Next → Prop
  | .ok (.value u) w' => E w' ∧ u = v
  | .ok .skip w' => E w' ∧ v = undef
  | .ok (.enter f args) w' => Calls P f args w' (fun e w'' => e = .returned v ∧ E w'')
  | _ => False
def step2 (P : Program) (D : Bool → World → Prop) (n i : Nat) (o : Oper) (a : Act) (v : Value) : Prop :=
  ∀ b w, (i = n → b = false) → D b w → upon2 P (D (b || decide (i = n))) v ((execOp a.eval o).run P w)
def qOp2 (P : Program) (ops : Array Oper) (D : Bool → World → Prop) (n i : Nat) (K : Act → Prop) (a : Act) : Prop :=
  match ops[i]? with
  | none => False
  | some o => if Region.wanted o (yielded ops a.tmps) then ∃ v, step2 P D n i o a v ∧ K (a.put o.dst v) else (i = n → ∀ w, D false w → D true w) ∧ K (a.put o.dst undef)
theorem qOp2_mono {i : Nat} {a : Act} {K K' : Act → Prop} (h : ∀ a, K a → K' a) (hh : qOp2 P ops D n i K a) : qOp2 P ops D n i K' a := by
  unfold qOp2 at *
  split
  · simp_all
  · rename_i o ho
    simp only [ho] at hh
    split
    · rename_i hw; simp only [hw, if_true] at hh; obtain ⟨v, h1, h2⟩ := hh; exact ⟨v, h1, h _ h2⟩
    · rename_i hw; simp only [hw] at hh; exact ⟨hh.1, h _ hh.2⟩
theorem wpOp_of_qOp2 {i : Nat} {b : Bool} {a : Act} {K : Act → Prop} {K' : Act → World → Prop} {Q' : Exit → Act → World → Prop} {w : World} (hb : i = n → b = false) (hD : D b w)
    (h : ∀ a w', D (b || decide (i = n)) w' → K a → K' a w') (hh : qOp2 P ops D n i K a) : wpOp P ops Q' i K' a w := by
  unfold qOp2 at hh
  unfold wpOp
  split
  · rename_i ho; simp only [ho] at hh
  · rename_i o ho
    simp only [ho] at hh
    split
    · rename_i hw
      simp only [hw, if_true] at hh
      refine .inl ?_
      obtain ⟨v, h1, h2⟩ := hh
      have h3 := h1 b w hb hD
      unfold Oper.wp
      generalize (execOp a.eval o).run P w = r at *
      cases r with
      | ok m w' =>
        cases m <;> simp only [upon2] at h3 <;> simp only [Oper.upon]
        case value u =>
          obtain ⟨e1, e2⟩ := h3
          rw [e2]
          exact h _ _ e1 h2
        case skip =>
          obtain ⟨e1, e2⟩ := h3
          rw [← e2]
          exact h _ _ e1 h2
        case enter f args => exact h3.mono fun e w'' ⟨he, hw''⟩ => by subst he; exact h _ _ hw'' h2
      | halt x w' => simp only [upon2] at h3
    · rename_i hw
      simp only [hw] at hh
      refine h _ _ ?_ hh.2
      by_cases hi : i = n
      · have := hb hi
        subst this
        simpa [hi] using hh.1 hi w hD
      · simpa [hi] using hD
def wpAny2 (P : Program) (md : Region.Mode) (ops : Array Oper) (D : Bool → World → Prop) (n : Nat) (Q : Act → Prop) : Nat → Array Bool → Act → Prop
  | 0, listed, a => Region.ready md ops listed = [] ∧ listed.getD n true = true ∧ Q a
  | fuel + 1, listed, a =>
    Region.ready md ops listed ≠ [] ∧ ∀ i ∈ Region.ready md ops listed, qOp2 P ops D n i (wpAny2 P md ops D n Q fuel (listed.setIfInBounds i true)) a
theorem getD_set_true (l : Array Bool) (i n : Nat) : (l.setIfInBounds i true).getD n true = (l.getD n true || decide (i = n)) := by
  by_cases h : i = n
  · subst h
    rcases Nat.lt_or_ge i l.size with h' | h'
    · simp [h']
    · simp [h']
  · rw [getD_set_ne true h]; simp [h]
theorem wpAny_of_two {Q : Act → Prop} {Q' : Exit → Act → World → Prop} (hQ : ∀ a w, D true w → Q a → Q' .normal a w) : ∀ (fuel : Nat) (listed : Array Bool) (a : Act) (w : World), D (listed.getD n true) w →
    wpAny2 P md ops D n Q fuel listed a → wpAny P md ops Q' fuel listed a w
  | 0, _, _, _, hw, h => ⟨h.1, hQ _ _ (by rw [h.2.1] at hw; exact hw) h.2.2⟩
  | fuel + 1, listed, _, _, hw, h => ⟨fun h0 => absurd h0 h.1, fun i hi => wpOp_of_qOp2 (b := listed.getD n true) (fun e => by subst e; exact (mem_ready.1 hi).1) hw
      (fun a' w' hw' => wpAny_of_two hQ fuel _ a' w' (by rw [getD_set_true]; exact hw')) (h.2 i hi)⟩
def Yields2 (P : Program) (ops : Array Oper) (D : Bool → World → Prop) (n i : Nat) (o : Oper) (v : Value) (a : Act) : Prop :=
  (Region.wanted o (yielded ops a.tmps) = true ∧ step2 P D n i o a v) ∨ (Region.wanted o (yielded ops a.tmps) = false ∧ v = undef ∧ (i = n → ∀ w, D false w → D true w))
theorem Yields2.qOp {i : Nat} {o : Oper} {v : Value} {a : Act} (hi : ops[i]? = some o) (hy : Yields2 P ops D n i o v a) {K : Act → Prop} (h : K (a.put o.dst v)) : qOp2 P ops D n i K a := by
  unfold qOp2
  simp only [hi]
  rcases hy with ⟨hw, hv⟩ | ⟨hw, rfl, h2⟩
  · simp only [hw, if_true]; exact ⟨v, hv, h⟩
  · simp only [hw, Bool.false_eq_true, if_false]; exact ⟨h2, h⟩
theorem Yields2.of_same {i : Nat} {o : Oper} {v : Value} {a a' : Act} (hy : Yields2 P ops D n i o v a) (he : execOp a'.eval o = execOp a.eval o)
    (hw : Region.wanted o (yielded ops a'.tmps) = Region.wanted o (yielded ops a.tmps)) : Yields2 P ops D n i o v a' := by
  unfold Yields2 step2 at *
  rw [he, hw]
  exact hy
theorem yields2_of_qOp {i : Nat} {o : Oper} {a : Act} {K : Act → Prop} (hi : ops[i]? = some o) (h : qOp2 P ops D n i K a) : ∃ v, Yields2 P ops D n i o v a ∧ K (a.put o.dst v) := by
  unfold qOp2 at h
  simp only [hi] at h
  by_cases hw : Region.wanted o (yielded ops a.tmps) = true
  · simp only [hw, if_true] at h
    obtain ⟨v, h1, h2⟩ := h
    exact ⟨v, .inl ⟨hw, h1⟩, h2⟩
  · simp only [hw] at h
    exact ⟨undef, .inr ⟨by simpa using hw, rfl, h.1⟩, h.2⟩
theorem qOp2_put {i j : Nat} {oi oj : Oper} {v : Value} (hj : ops[j]? = some oj) (hap : oi.apart ops oj = true)
    (hsi : ∀ cs b, oi.op ≠ .select cs b) (hsj : ∀ cs b, oj.op ≠ .select cs b) {K : Act → Prop} {a : Act}
    (hy : Yields2 P ops D n i oi v a) (h : qOp2 P ops D n j K (a.put oi.dst v)) :
    qOp2 P ops D n j (fun a' => Yields2 P ops D n i oi v a' ∧ K (a'.put oi.dst v)) a := by
  obtain ⟨h1, h2, h3⟩ := Oper.apart_spec hap
  have keep : ∀ (a : Act), Yields2 P ops D n i oi v a → ∀ u, Yields2 P ops D n i oi v (a.put oj.dst u) := fun a hy u =>
    hy.of_same (execOp_put oi hsi a oj.dst u h3) (wanted_put oi a oj.dst u h3)
  unfold qOp2 at *
  simp only [hj] at *
  rw [wanted_put oj a oi.dst v h1] at h
  split
  · rename_i hw
    simp only [hw, if_true] at h
    obtain ⟨u, hu, hn⟩ := h
    refine ⟨u, ?_, keep a hy u, by rw [← Act.put_comm a v u h2]; exact hn⟩
    unfold step2 at *
    rwa [execOp_put oj hsj a oi.dst v h1] at hu
  · rename_i hw
    simp only [hw] at h
    exact ⟨h.1, keep a hy _, by rw [← Act.put_comm a v undef h2]; exact h.2⟩
theorem wpAny2_first {Q : Act → Prop} {i : Nat} {oi : Oper} {v : Value} (hi : ops[i]? = some oi) (hsel : ∀ (j : Nat) (o : Oper) cs b, ops[j]? = some o → o.op ≠ .select cs b) :
    ∀ (fuel : Nat) (listed : Array Bool) (a : Act),
      (∀ j oj, ops[j]? = some oj → j ≠ i → listed.getD j true = false → (∀ e ∈ oj.after, Region.binds md e = true → e.on ≠ i) → oi.apart ops oj = true) →
      i ∈ Region.ready md ops listed → Yields2 P ops D n i oi v a →
      wpAny2 P md ops D n Q fuel (listed.setIfInBounds i true) (a.put oi.dst v) → wpAny2 P md ops D n Q (fuel + 1) listed a := by
  intro fuel
  induction fuel with
  | zero =>
    intro listed a _ hr hy H
    refine ⟨fun h => (by rw [h] at hr; cases hr), fun j hj => ?_⟩
    by_cases hji : j = i
    · subst hji; exact hy.qOp hi H
    · have := ready_mono hj hji
      rw [H.1] at this
      cases this
  | succ fuel ih =>
    intro listed a hfree hr hy H
    refine ⟨fun h => (by rw [h] at hr; cases hr), fun j hj => ?_⟩
    by_cases hji : j = i
    · subst hji; exact hy.qOp hi H
    · have h1 := H.2 j (ready_mono hj hji)
      obtain ⟨hjun, oj, hoj, hall⟩ := mem_ready.1 hj
      have hnot : ∀ e ∈ oj.after, Region.binds md e = true → e.on ≠ i := fun e he hb heq => by
        have h1 := hall e he hb
        have h0 := (mem_ready.1 hr).1
        rw [heq] at h1
        rcases Nat.lt_or_ge i listed.size with h' | h'
        · simp [h'] at h0 h1; rw [h0] at h1; cases h1
        · simp [Array.getElem?_eq_none h'] at h1
      have h2 := qOp2_put hoj (hfree j oj hoj hji hjun hnot) (fun cs b => hsel i oi cs b hi) (fun cs b => hsel j oj cs b hoj) hy h1
      have hfree' : ∀ k ok, ops[k]? = some ok → k ≠ i → (listed.setIfInBounds j true).getD k true = false →
          (∀ e ∈ ok.after, Region.binds md e = true → e.on ≠ i) → oi.apart ops ok = true := fun k ok hk hki hun hno => by
        refine hfree k ok hk hki ?_ hno
        by_cases hjk : j = k
        · subst hjk; exact hjun
        · rw [getD_set_ne true hjk] at hun; exact hun
      refine qOp2_mono (fun a' h3 => ih (listed.setIfInBounds j true) a' hfree' (ready_mono hr (Ne.symm hji)) h3.1 ?_) h2
      rw [Array.setIfInBounds_comm _ _ hji]
      exact h3.2
/-- the lexical walk -/
def wpTwo (P : Program) (ops : Array Oper) (D : Bool → World → Prop) (n : Nat) (Q : Act → Prop) : Nat → List Oper → Act → Prop
  | _, [], a => Q a
  | k, o :: rest, a => if Region.wanted o (yielded ops a.tmps) then ∃ v, step2 P D n k o a v ∧ wpTwo P ops D n Q (k + 1) rest (a.put o.dst v) else (k = n → ∀ w, D false w → D true w) ∧ wpTwo P ops D n Q (k + 1) rest (a.put o.dst undef)
theorem wpAny2_lex {Q : Act → Prop} (hs : Region.noSelect ops = true) : ∀ (l : List Oper) (k : Nat) (listed : Array Bool) (a : Act), (∀ j, l[j]? = ops[k + j]?) → n < k + l.length → (∀ j, j < k → listed.getD j true = true) →
    Region.lexFrom md ops l.length k listed = true → wpTwo P ops D n Q k l a → wpAny2 P md ops D n Q l.length listed a
  | [], k, _, _, _, hn, hl, hB, h => ⟨by simpa [Region.lexFrom] using hB, hl n (by simpa using hn), h⟩
  | o :: l, k, listed, a, hl, hn, hd, hB, h => by
    have h0 : ops[k]? = some o := by simpa using (hl 0).symm
    simp only [List.length_cons, Region.lexFrom, Bool.and_eq_true] at hB
    obtain ⟨⟨hr, hf⟩, hB'⟩ := hB
    have hst : qOp2 P ops D n k (wpTwo P ops D n Q (k + 1) l) a := by unfold qOp2; simp only [h0]; exact h
    obtain ⟨v, hy, hK⟩ := yields2_of_qOp h0 hst
    refine wpAny2_first h0 (Region.noSelect_spec hs) l.length listed a (Region.free_spec h0 hf) (by simpa using hr) hy
      (wpAny2_lex hs l (k + 1) _ _ (fun j => by have := hl (j + 1); simpa [Nat.add_assoc, Nat.add_comm 1 j] using this) (by simp at hn; omega) (fun j hj => ?_) hB' hK)
    rw [getD_set_true]
    by_cases hjk : k = j
    · simp [hjk]
    · rw [hd j (by omega)]; rfl
/-- a region of which operation n writes -/
theorem region_two {id : Nat} {Q : Exit → Act → World → Prop} {a : Act} {w : World} {l : List Oper} (n : Nat) (D : Bool → World → Prop) (hm : P.follows .mixedOrders = true) (hB : Region.lexB .any l.toArray = true) (hn : n < l.length) (hD : D false w.drew)
    (h : wpTwo P l.toArray D n (fun a' => ∀ w', D true w' → Q .normal a' w') 0 l a) : (Code.region id l.toArray true).wp P Q a w := by
  simp only [Region.lexB, Bool.and_eq_true] at hB
  refine wp_region_any hm (wpAny_of_two (D := D) (n := n) (Q := fun a' => ∀ w', D true w' → Q .normal a' w') (fun _ w' hw' h => h w' hw') _ _ _ _ ?_ ?_)
  · have e : (Array.replicate l.toArray.size false).getD n true = false := by simp [hn]
    rw [e]; exact hD
  · have := wpAny2_lex (D := D) (n := n) (md := .any) hB.1 l 0 (Array.replicate l.toArray.size false) a (by simp) (by simpa using hn) (fun j hj => absurd hj (Nat.not_lt_zero j)) (by simpa using hB.2) h
    simpa using this

/-! steps: what follows kept apart -/
theorem wpTwo_nil {k : Nat} {Q : Act → Prop} {a : Act} (h : Q a) : wpTwo P ops D n Q k [] a := h
theorem two_quiet {k : Nat} {Q : Act → Prop} {a : Act} {o : Oper} {rest : List Oper} (v : Value) (hne : k ≠ n) (hg : Region.wanted o (yielded ops a.tmps) = true) (hv : ∀ b w, D b w → (execOp a.eval o).run P w = .ok (.value v) w)
    (h : wpTwo P ops D n Q (k + 1) rest (a.put o.dst v)) : wpTwo P ops D n Q k (o :: rest) a := by
  unfold wpTwo
  rw [if_pos hg]
  exact ⟨v, fun b w _ hw => by rw [hv b w hw]; exact ⟨by simpa [hne] using hw, rfl⟩, h⟩
theorem two_call {k : Nat} {Q : Act → Prop} {a : Act} {o : Oper} {rest : List Oper} (v : Value) (f : FuncId) (args : Array Value) (hne : k ≠ n) (hg : Region.wanted o (yielded ops a.tmps) = true) (hv : ∀ w, (execOp a.eval o).run P w = .ok (.enter f args) w)
    (hc : ∀ b w, D b w → Calls P f args w fun e w' => e = .returned v ∧ D b w') (h : wpTwo P ops D n Q (k + 1) rest (a.put o.dst v)) : wpTwo P ops D n Q k (o :: rest) a := by
  unfold wpTwo
  rw [if_pos hg]
  exact ⟨v, fun b w _ hw => by rw [hv w]; simpa [upon2, hne] using hc b w hw, h⟩
theorem two_write {Q : Act → Prop} {a : Act} {o : Oper} {rest : List Oper} (v : Value) (f : FuncId) (args : Array Value) (hg : Region.wanted o (yielded ops a.tmps) = true) (hv : ∀ w, (execOp a.eval o).run P w = .ok (.enter f args) w)
    (hc : ∀ w, D false w → Calls P f args w fun e w' => e = .returned v ∧ D true w') (h : wpTwo P ops D n Q (n + 1) rest (a.put o.dst v)) : wpTwo P ops D n Q n (o :: rest) a := by
  unfold wpTwo
  rw [if_pos hg]
  exact ⟨v, fun b w hb hw => by
    obtain rfl := hb rfl
    rw [hv w]; simpa [upon2] using hc w hw, h⟩
theorem two_skip {k : Nat} {Q : Act → Prop} {a : Act} {o : Oper} {rest : List Oper} (hne : k ≠ n) (hg : Region.wanted o (yielded ops a.tmps) = false)
    (h : wpTwo P ops D n Q (k + 1) rest (a.put o.dst undef)) : wpTwo P ops D n Q k (o :: rest) a := by
  unfold wpTwo
  rw [if_neg (by simp [hg])]
  exact ⟨fun e => absurd e hne, h⟩
/-! .. and with the frame written out behind each step -/
theorem two_step {k : Nat} {Q : Act → Prop} {a : Act} {o : Oper} {rest : List Oper}
    (h : ∀ K : Act → Prop, (∀ a, wpTwo P ops D n Q (k + 1) rest a → K a) → if Region.wanted o (yielded ops a.tmps) then ∃ v, step2 P D n k o a v ∧ K (a.put o.dst v) else (k = n → ∀ w, D false w → D true w) ∧ K (a.put o.dst undef)) : wpTwo P ops D n Q k (o :: rest) a :=
  h _ (fun _ h => h)
theorem two_quietK {k : Nat} {a : Act} {o : Oper} {K : Act → Prop} (v : Value) (hne : k ≠ n) (hg : Region.wanted o (yielded ops a.tmps) = true) (hv : ∀ b w, D b w → (execOp a.eval o).run P w = .ok (.value v) w) (h : K (a.put o.dst v)) :
    if Region.wanted o (yielded ops a.tmps) then ∃ v, step2 P D n k o a v ∧ K (a.put o.dst v) else (k = n → ∀ w, D false w → D true w) ∧ K (a.put o.dst undef) := by
  rw [if_pos hg]
  exact ⟨v, fun b w _ hw => by rw [hv b w hw]; exact ⟨by simpa [hne] using hw, rfl⟩, h⟩
theorem two_callK {k : Nat} {a : Act} {o : Oper} {K : Act → Prop} (v : Value) (f : FuncId) (args : Array Value) (hne : k ≠ n) (hg : Region.wanted o (yielded ops a.tmps) = true) (hv : ∀ w, (execOp a.eval o).run P w = .ok (.enter f args) w)
    (hc : ∀ b w, D b w → Calls P f args w fun e w' => e = .returned v ∧ D b w') (h : K (a.put o.dst v)) :
    if Region.wanted o (yielded ops a.tmps) then ∃ v, step2 P D n k o a v ∧ K (a.put o.dst v) else (k = n → ∀ w, D false w → D true w) ∧ K (a.put o.dst undef) := by
  rw [if_pos hg]
  exact ⟨v, fun b w _ hw => by rw [hv w]; simpa [upon2, hne] using hc b w hw, h⟩
theorem two_writeK {a : Act} {o : Oper} {K : Act → Prop} (v : Value) (f : FuncId) (args : Array Value) (hg : Region.wanted o (yielded ops a.tmps) = true) (hv : ∀ w, (execOp a.eval o).run P w = .ok (.enter f args) w)
    (hc : ∀ w, D false w → Calls P f args w fun e w' => e = .returned v ∧ D true w') (h : K (a.put o.dst v)) :
    if Region.wanted o (yielded ops a.tmps) then ∃ v, step2 P D n n o a v ∧ K (a.put o.dst v) else (n = n → ∀ w, D false w → D true w) ∧ K (a.put o.dst undef) := by
  rw [if_pos hg]
  exact ⟨v, fun b w hb hw => by
    obtain rfl := hb rfl
    rw [hv w]; simpa [upon2] using hc w hw, h⟩
/-- ahead of the writer the world is one, behind it it is one of a class -/
def D2 (w0 : World) (E : World → Prop) (d : Bool) (w' : World) : Prop := if d then E w' else w' = w0
theorem D2.any {w0 : World} {E : World → Prop} {p : World → Prop} (h0 : p w0) (h1 : ∀ w', E w' → p w') : ∀ d w', D2 w0 E d w' → p w' := fun d w' h => by
  cases d
  · have e : w' = w0 := h
    subst e; exact h0
  · exact h1 w' h
end Go.Proofs.YtkhdhiddhnmdkaaGreatDoor
