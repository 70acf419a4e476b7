/-
sha2: a block goes into the words.
The shelf's contracts on strings.Join, strings.Repeat, strings.Builder, bits.Mul64 at this program's numbers.
-/
import Derived.Laws.CopyOwn
import Derived.Shelf.Strings.OnBuilder
import Derived.Shelf.Strings.Repeat
import Derived.Shelf.Bits.Mul64
import Derived.Test.YtkhdhiddhnmdkaaGreatDoorPk05
import Derived.Test.YtkhdhiddhnmdkaaGreatDoorPk04
namespace Go.Proofs.YtkhdhiddhnmdkaaGreatDoor
open Go.RowKit Sha
set_option maxRecDepth 100000
namespace Sha
abbrev notI (x : Int) : Int := bits .xor .u64 (if IntKind.u64.signed = true then -1 else IntKind.u64.max) x
def oneI (b : Bool) (kt wt : Int) (x : List Int) : Int :=
  w64 (w64 (w64 (w64 (x.getD 7 0 + lg1 b (x.getD 4 0)) + bits .xor .u64 (bits .and .u64 (x.getD 4 0) (x.getD 5 0)) (bits .and .u64 (notI (x.getD 4 0)) (x.getD 6 0))) + wordI b kt) + wt)
def twoI (b : Bool) (x : List Int) : Int :=
  w64 (lg0 b (x.getD 0 0) + bits .xor .u64 (bits .xor .u64 (bits .and .u64 (x.getD 0 0) (x.getD 1 0)) (bits .and .u64 (x.getD 0 0) (x.getD 2 0))) (bits .and .u64 (x.getD 1 0) (x.getD 2 0)))
def stepX (b : Bool) (kt wt : Int) (x : List Int) : List Int :=
  [cutI b (w64 (oneI b kt wt x + twoI b x)), x.getD 0 0, x.getD 1 0, x.getD 2 0, cutI b (w64 (x.getD 3 0 + oneI b kt wt x)), x.getD 4 0, x.getD 5 0, x.getD 6 0]
def rndL (b : Bool) (T W h : List Int) : Nat → List Int
  | 0 => h
  | t + 1 => stepX b (T.getD t 0) (W.getD t 0) (rndL b T W h t)
theorem rnd_len (b : Bool) (T W h : List Int) (hl : h.length = 8) : ∀ t, (rndL b T W h t).length = 8
  | 0 => hl
  | _ + 1 => rfl
def finL (b : Bool) (h x : List Int) : Nat → List Int
  | 0 => h
  | i + 1 => (finL b h x i).set i (cutI b (w64 ((finL b h x i).getD i 0 + x.getD i 0)))
theorem fin_len (b : Bool) (h x : List Int) : ∀ i, (finL b h x i).length = h.length
  | 0 => rfl
  | i + 1 => by rw [finL, List.length_set, fin_len b h x i]
def mixF (b : Bool) (T h : List Int) (s : List UInt8) : List Int := finL b h (rndL b T (schL b s (kr b)) h (kr b)) 8
theorem mix_len (b : Bool) (T h : List Int) (s : List UInt8) : (mixF b T h s).length = h.length := fin_len b h _ 8
end Sha
/-- the tables lie where they should -/
structure ShaT (w : World) (T F : List Int) : Prop where
  t : T.length = 80
  f : F.length = 8
  ct : ∀ i, i < 80 → w.cell? ⟨3, i, none⟩ = some (.int .u64 (T.getD i 0))
  cf : ∀ i, i < 8 → w.cell? ⟨2, i, none⟩ = some (.int .u64 (F.getD i 0))
theorem ShaT.keeps {w w' : World} {T F : List Int} {b : Nat} (h : ShaT w T F) (hk : Keeps (fun k => k = b) w w') (h1 : 3 ≠ b) (h2 : 2 ≠ b) : ShaT w' T F :=
  ⟨h.t, h.f, fun i hi => hk.cell (h.ct i hi) h1, fun i hi => hk.cell (h.cf i hi) h2⟩
theorem ShaT.below {w w' : World} {T F : List Int} (h : ShaT w T F) (hk : Below w.heap.size w w') : ShaT w' T F :=
  ⟨h.t, h.f, fun i hi => (Keeps.of_below (F := fun _ => False) hk).cell (h.ct i hi) id, fun i hi => (Keeps.of_below (F := fun _ => False) hk).cell (h.cf i hi) id⟩
def z80 : List Int := List.replicate 80 0
theorem zc80 : Obj.cells Tryz.zeroCells139 139 = .cells (iv .u64 z80).toArray 139 := by kernel_rfl
theorem z80_len : (iv .u64 z80).length = 80 := rfl
def z8 : List Int := List.replicate 8 0
theorem z8_len : (iv .u64 z8).length = 8 := rfl
theorem arr8_size : (Tryz.prog.info? 103).map (·.size) = some 8 := by kernel_rfl
set_option maxHeartbeats 8000000 in
theorem mix_ok (b : Bool) (T F h : List Int) (hb : Nat) (s : ByteArray) (hs : s.size = 2 * kw b) (w : World) (hT : ShaT w T F) (hB : Blk w hb 103 (iv .u64 h)) (hl : h.length = 8) (hne : 3 ≠ hb) :
    Calls Tryz.prog 56 #[.agg (kb b).toArray, .pointer (some ⟨hb, 0, none⟩), .string s] w fun e w' => e = .returned (.tuple #[]) ∧ Blk w' hb 103 (iv .u64 (mixF b T h s.data.toList)) ∧ Keeps (fun k => k = hb) w w' := by
  obtain ⟨R, hR, hR2⟩ : ∃ R : Nat, R = kr b ∧ R ≤ 80 := ⟨_, rfl, kr_le b⟩
  obtain ⟨W, hW⟩ : ∃ W, W = schL b s.data.toList (kr b) := ⟨_, rfl⟩
  have hWl : W.length = 80 := by rw [hW]; exact schL_len _ _ _
  have hsch := fun w => sched_ok b s hs w
  unfold mixF
  rw [← hW, ← hR]
  rw [← hW] at hsch
  have HS := Lib.hid hsch
  obtain ⟨X, hX⟩ : ∃ X, X = rndL b T W h R := ⟨_, rfl⟩
  have hXl : X.length = 8 := by rw [hX]; exact rnd_len b T W h hl R
  rw [← hX]
  have HX := Lib.hid hX
  clear hX
  have HK := Lib.hid (And.intro hR (And.intro hT (And.intro hB (And.intro hl hne))))
  have hbl := hB.lt
  clear hs hR hsch hT hB hne hW
  go_enter Tryz.func56, Tryz.ntmps56
  go_upto_region 1 with fail
  refine wp_gen (fun wx => Blk wx w.heap.size 62 (kb b) ∧ Below w.heap.size w wx) ⟨Blk.new w _ _, below1 _ _⟩ ?_
  rintro w1 ⟨B1, BW⟩
  have HB1 := Lib.hid (And.intro B1 BW)
  have LK : Hid ((kb b).length = 14) := by rw [iv_len]; cases b <;> rfl
  clear B1 BW
  have LW : Hid ((iv .u64 W).length = 80) := by rw [iv_len]; exact hWl
  go_upto_region 2 with (first | refine load_blk HB1.out.1 Tryz.underlying62 rfl kind_size LK.out rfl rfl rfl ?_ | (go_at_call 88; refine (HS.out _).mono ?_; rintro e w2 ⟨rfl, hb2⟩) | (rw [zc80]; refine store_blk (Blk.new w2 _ (iv .u64 z80)) arr80_size LW.out z80_len (iv_one _ _) rfl rfl rfl rfl ?_))
  have N2 := new_row w2 139 (iv .u64 z80) (iv .u64 W)
  refine wp_gen (fun wx => Blk wx w2.heap.size 139 (iv .u64 W) ∧ Rw w1 wx) ⟨N2.1, Rw.trans hb2 N2.2⟩ ?_
  rintro w3 ⟨B3, R3⟩
  have g2 : w.heap.size < w2.heap.size := Nat.lt_of_lt_of_le HB1.out.1.lt hb2.size
  generalize w2.heap.size = c2 at *
  have H3 := Lib.hid (And.intro (HB1.out.1.rw R3) (And.intro B3 (Rw.out HB1.out.2 R3)))
  have HH : Hid (Blk w3 hb 103 (iv .u64 h)) := HK.out.2.2.1.below H3.out.2.2 hbl
  have LH : Hid ((iv .u64 h).length = 8) := by rw [iv_len]; exact hl
  clear N2 B3 R3 HB1 hb2 HS
  go_upto_region 3 with (first | refine load_blk HH.out Tryz.underlying103 rfl arr8_size LH.out rfl rfl rfl ?_ | refine store_blk (Blk.new w3 _ (iv .u64 z8)) arr8_size LH.out z8_len (iv_one _ _) rfl rfl rfl rfl ?_)
  have N4 := new_row w3 103 (iv .u64 z8) (iv .u64 h)
  refine wp_gen (fun wx => Blk wx w3.heap.size 103 (iv .u64 h) ∧ Rw w3 wx) ⟨N4.1, N4.2⟩ ?_
  rintro w4 ⟨B4, R4⟩
  have g3 : c2 < w3.heap.size := H3.out.2.1.lt
  generalize hc3 : w3.heap.size = c3 at *
  have H4 : Hid (Blk w4 w.heap.size 62 (kb b) ∧ Blk w4 c2 139 (iv .u64 W) ∧ Blk w4 c3 103 (iv .u64 h) ∧ Below w.heap.size w w4) := Lib.hid ⟨H3.out.1.rw R4, H3.out.2.1.rw R4, B4, Rw.out H3.out.2.2 R4⟩
  have k1 : w4.cell? ⟨w.heap.size, 1, none⟩ = some (.int .i64 (R : Nat)) := by rw [HK.out.1]; cases b <;> exact H4.out.1.cell 1 _ rfl
  clear N4 B4 R4 H3 HH LH hc3
  go_wp2_with fail
  clear k1
  go_loopw [20] (fun v wr => ∃ t : Nat, v = .int .i64 t ∧ t ≤ R ∧ Hid (Blk wr w.heap.size 62 (kb b) ∧ Blk wr c2 139 (iv .u64 W) ∧ Blk wr c3 103 (iv .u64 (rndL b T W h t)) ∧ Below w.heap.size w wr)) (fun v _ => R - (intOf v).toNat)
  case atStart => exact ⟨0, rfl, by omega, H4.out⟩
  case round =>
    obtain ⟨t, rfl, ht, hr⟩ := hrel
    clear H4
    rcases Nat.lt_or_ge t R with hlt | hge
    · have hdt : decide ((t : Int) < (R : Int)) = true := decide_eq_true (by omega)
      have hxl := rnd_len b T W h hl t
      have hst : Hid (rndL b T W h (t + 1) = stepX b (T.getD t 0) (W.getD t 0) (rndL b T W h t)) := rfl
      generalize rndL b T W h t = x at *
      obtain ⟨x0, x1, x2, x3, x4, x5, x6, x7, rfl⟩ := list8 x hxl
      have Hwr : Hid (Blk (wr.drewN 1) w.heap.size 62 (kb b) ∧ Blk (wr.drewN 1) c2 139 (iv .u64 W) ∧ Blk (wr.drewN 1) c3 103 (iv .u64 [x0, x1, x2, x3, x4, x5, x6, x7]) ∧ Below w.heap.size w (wr.drewN 1)) := Lib.hid ⟨hr.out.1.drew 1, hr.out.2.1.drew 1, hr.out.2.2.1.drew 1, below_drewN hr.out.2.2.2 1⟩
      have qW : ∀ w', Rw (wr.drewN 1) w' → w'.cell? ⟨c2, t, none⟩ = some (.int .u64 (W.getD t 0)) := fun w' h => (Hwr.out.2.1.rw h).icell t (by omega)
      have qT : ∀ w', Rw (wr.drewN 1) w' → w'.cell? ⟨3, t, none⟩ = some (.int .u64 (T.getD t 0)) := fun w' h => (HK.out.2.1.below (Rw.out Hwr.out.2.2.2 h)).ct t (by omega)
      have q0 : ∀ w', Rw (wr.drewN 1) w' → w'.cell? ⟨c3, 0, none⟩ = some (.int .u64 x0) := fun w' h => (Hwr.out.2.2.1.rw h).icell 0 (by show 0 < 8; decide)
      have q1 : ∀ w', Rw (wr.drewN 1) w' → w'.cell? ⟨c3, 1, none⟩ = some (.int .u64 x1) := fun w' h => (Hwr.out.2.2.1.rw h).icell 1 (by show 1 < 8; decide)
      have q2 : ∀ w', Rw (wr.drewN 1) w' → w'.cell? ⟨c3, 2, none⟩ = some (.int .u64 x2) := fun w' h => (Hwr.out.2.2.1.rw h).icell 2 (by show 2 < 8; decide)
      have q3 : ∀ w', Rw (wr.drewN 1) w' → w'.cell? ⟨c3, 3, none⟩ = some (.int .u64 x3) := fun w' h => (Hwr.out.2.2.1.rw h).icell 3 (by show 3 < 8; decide)
      have q4 : ∀ w', Rw (wr.drewN 1) w' → w'.cell? ⟨c3, 4, none⟩ = some (.int .u64 x4) := fun w' h => (Hwr.out.2.2.1.rw h).icell 4 (by show 4 < 8; decide)
      have q5 : ∀ w', Rw (wr.drewN 1) w' → w'.cell? ⟨c3, 5, none⟩ = some (.int .u64 x5) := fun w' h => (Hwr.out.2.2.1.rw h).icell 5 (by show 5 < 8; decide)
      have q6 : ∀ w', Rw (wr.drewN 1) w' → w'.cell? ⟨c3, 6, none⟩ = some (.int .u64 x6) := fun w' h => (Hwr.out.2.2.1.rw h).icell 6 (by show 6 < 8; decide)
      have q7 : ∀ w', Rw (wr.drewN 1) w' → w'.cell? ⟨c3, 7, none⟩ = some (.int .u64 x7) := fun w' h => (Hwr.out.2.2.1.rw h).icell 7 (by show 7 < 8; decide)
      generalize T.getD t 0 = kt at *
      generalize W.getD t 0 = wt at *
      have h1 : Hid (oneI b kt wt [x0, x1, x2, x3, x4, x5, x6, x7] = IntKind.u64.wrap (IntKind.u64.wrap (IntKind.u64.wrap (IntKind.u64.wrap (x7 + lg1 b x4) + bits .xor .u64 (bits .and .u64 x4 x5) (bits .and .u64 (bits .xor .u64 (if IntKind.u64.signed = true then -1 else IntKind.u64.max) x4) x6)) + wordI b kt) + wt)) := rfl
      have hr0 := hr
      clear hr q0 q1 q2 q3
      go_upto_region 6 with fail
      (refine region_quiet (C := fun w' => Rw (wr.drewN 1) w') (by kernel_rfl) (by kernel_rfl) (Rw.refl _) ?_)
      (iterate 2 ((with_reducible refine wpQuiet_step (fun K hK => ?_)); refine quiet_autoE (by first | rfl | simp [Region.wanted, yielded]) ?_; apply Exists.intro; refine ⟨fun w' hw' => ?_, ?_⟩; (focus (go_simp; (first | done | rfl | ((try go_ints); (try simp only [↓IntWalk.iteOmega, true_and]); (try go_simp); (first | done | rfl))))); go_simp; (with_reducible apply hK); clear hK K))
      ((with_reducible refine wpQuiet_step (fun K hK => ?_)); refine quiet_loadB (n := 14) (fun w' hw' => Hwr.out.1.rw hw') Tryz.underlying62 rfl (by kernel_rfl) (LK.out) (by first | rfl | simp [Region.wanted, yielded]) rfl (by go_simp) ?_; go_simp; (with_reducible apply hK); clear hK K)
      (iterate 3 ((with_reducible refine wpQuiet_step (fun K hK => ?_)); refine quiet_autoE (by first | rfl | simp [Region.wanted, yielded]) ?_; apply Exists.intro; refine ⟨fun w' hw' => ?_, ?_⟩; (focus (go_simp; (first | done | rfl | ((try go_ints); (try simp only [↓IntWalk.iteOmega, true_and]); (try go_simp); (first | done | rfl))))); go_simp; (with_reducible apply hK); clear hK K))
      ((with_reducible refine wpQuiet_step (fun K hK => ?_)); refine quiet_loadN (fun w' hw' => kb_range b 11 (by decide) (Hwr.out.1.rw hw')) Tryz.underlying60 rfl (by kernel_rfl) (by first | rfl | simp [Region.wanted, yielded]) rfl (by go_simp) ?_; go_simp; (with_reducible apply hK); clear hK K)
      ((with_reducible refine wpQuiet_step (fun K hK => ?_)); refine quiet_callE (by first | rfl | simp [Region.wanted, yielded]) ?_; apply Exists.intro; apply Exists.intro; refine ⟨fun w' => ?_, ?_⟩; (focus (go_simp; try (first | exact ⟨rfl, rfl⟩ | rfl))); apply Exists.intro; refine ⟨fun w' hw' => quiet_below hw' (lg1_ok b x4 w'), ?_⟩; go_simp; (with_reducible apply hK); clear hK K)
      (iterate 14 ((with_reducible refine wpQuiet_step (fun K hK => ?_)); refine quiet_autoE (by first | rfl | simp [Region.wanted, yielded]) ?_; apply Exists.intro; refine ⟨fun w' hw' => ?_, ?_⟩; (focus (go_simp; (first | done | rfl | ((try go_ints); (try simp only [↓IntWalk.iteOmega, true_and]); (try go_simp); (first | done | rfl))))); go_simp; (with_reducible apply hK); clear hK K))
      ((with_reducible refine wpQuiet_step (fun K hK => ?_)); refine quiet_loadB (n := 14) (fun w' hw' => Hwr.out.1.rw hw') Tryz.underlying62 rfl (by kernel_rfl) (LK.out) (by first | rfl | simp [Region.wanted, yielded]) rfl (by go_simp) ?_; go_simp; (with_reducible apply hK); clear hK K)
      (iterate 3 ((with_reducible refine wpQuiet_step (fun K hK => ?_)); refine quiet_autoE (by first | rfl | simp [Region.wanted, yielded]) ?_; apply Exists.intro; refine ⟨fun w' hw' => ?_, ?_⟩; (focus (go_simp; (first | done | rfl | ((try go_ints); (try simp only [↓IntWalk.iteOmega]); (try go_simp); (first | done | rfl))))); go_simp; (with_reducible apply hK); clear hK K))
      ((with_reducible refine wpQuiet_step (fun K hK => ?_)); refine quiet_callE (by first | rfl | simp [Region.wanted, yielded]) ?_; apply Exists.intro; apply Exists.intro; refine ⟨fun w' => ?_, ?_⟩; (focus (go_simp; try (first | exact ⟨rfl, rfl⟩ | rfl))); apply Exists.intro; refine ⟨fun w' hw' => quiet_below hw' (word_ok' b _ w'), ?_⟩; go_simp; (with_reducible apply hK); clear hK K)
      (repeat ((with_reducible refine wpQuiet_step (fun K hK => ?_)); refine quiet_autoE (by first | rfl | simp [Region.wanted, yielded]) ?_; apply Exists.intro; refine ⟨fun w' hw' => ?_, ?_⟩; (focus (go_simp; (first | done | rfl | ((try go_ints); (try simp only [↓IntWalk.iteOmega]); (try go_simp); (first | done | rfl))))); go_simp; (with_reducible apply hK); clear hK K))
      refine wpQuiet_nil ?_
      intro w5 hw5
      rw [← h1.out]
      have H5 : Hid (Blk (w5.drewN 1) w.heap.size 62 (kb b) ∧ Blk (w5.drewN 1) c2 139 (iv .u64 W) ∧ Blk (w5.drewN 1) c3 103 (iv .u64 [x0, x1, x2, x3, x4, x5, x6, x7]) ∧ Below w.heap.size w (w5.drewN 1)) := Lib.hid ⟨(Hwr.out.1.rw hw5).drew 1, (Hwr.out.2.1.rw hw5).drew 1, (Hwr.out.2.2.1.rw hw5).drew 1, below_drewN (Rw.out Hwr.out.2.2.2 hw5) 1⟩
      clear q4 q5 q6 q7 qW qT h1 hw5 Hwr hr0
      have q0 : ∀ w', Rw (w5.drewN 1) w' → w'.cell? ⟨c3, 0, none⟩ = some (.int .u64 x0) := fun w' h => (H5.out.2.2.1.rw h).icell 0 (by show 0 < 8; decide)
      have q1 : ∀ w', Rw (w5.drewN 1) w' → w'.cell? ⟨c3, 1, none⟩ = some (.int .u64 x1) := fun w' h => (H5.out.2.2.1.rw h).icell 1 (by show 1 < 8; decide)
      have q2 : ∀ w', Rw (w5.drewN 1) w' → w'.cell? ⟨c3, 2, none⟩ = some (.int .u64 x2) := fun w' h => (H5.out.2.2.1.rw h).icell 2 (by show 2 < 8; decide)
      have h2 : Hid (twoI b [x0, x1, x2, x3, x4, x5, x6, x7] = IntKind.u64.wrap (lg0 b x0 + bits .xor .u64 (bits .xor .u64 (bits .and .u64 x0 x1) (bits .and .u64 x0 x2)) (bits .and .u64 x1 x2))) := rfl
      have hst2 : Hid (stepX b kt wt [x0, x1, x2, x3, x4, x5, x6, x7] = [cutI b (IntKind.u64.wrap (oneI b kt wt [x0, x1, x2, x3, x4, x5, x6, x7] + twoI b [x0, x1, x2, x3, x4, x5, x6, x7])), x0, x1, x2, cutI b (IntKind.u64.wrap (x3 + oneI b kt wt [x0, x1, x2, x3, x4, x5, x6, x7])), x4, x5, x6]) := rfl
      generalize oneI b kt wt [x0, x1, x2, x3, x4, x5, x6, x7] = on at *
      go_upto_region 7 with fail
      (refine region_quiet (C := fun w' => Rw (w5.drewN 1) w') (by kernel_rfl) (by kernel_rfl) (Rw.refl _) ?_)
      ((with_reducible refine wpQuiet_step (fun K hK => ?_)); refine quiet_loadB (n := 14) (fun w' hw' => H5.out.1.rw hw') Tryz.underlying62 rfl (by kernel_rfl) (LK.out) (by first | rfl | simp [Region.wanted, yielded]) rfl (by go_simp) ?_; go_simp; (with_reducible apply hK); clear hK K)
      (iterate 3 ((with_reducible refine wpQuiet_step (fun K hK => ?_)); refine quiet_autoE (by first | rfl | simp [Region.wanted, yielded]) ?_; apply Exists.intro; refine ⟨fun w' hw' => ?_, ?_⟩; (focus (go_simp; (first | done | rfl | ((try go_ints); (try simp only [↓IntWalk.iteOmega, true_and]); (try go_simp); (first | done | rfl))))); go_simp; (with_reducible apply hK); clear hK K))
      ((with_reducible refine wpQuiet_step (fun K hK => ?_)); refine quiet_loadN (fun w' hw' => kb_range b 8 (by decide) (H5.out.1.rw hw')) Tryz.underlying60 rfl (by kernel_rfl) (by first | rfl | simp [Region.wanted, yielded]) rfl (by go_simp) ?_; go_simp; (with_reducible apply hK); clear hK K)
      ((with_reducible refine wpQuiet_step (fun K hK => ?_)); refine quiet_callE (by first | rfl | simp [Region.wanted, yielded]) ?_; apply Exists.intro; apply Exists.intro; refine ⟨fun w' => ?_, ?_⟩; (focus (go_simp; try (first | exact ⟨rfl, rfl⟩ | rfl))); apply Exists.intro; refine ⟨fun w' hw' => quiet_below hw' (lg0_ok b x0 w'), ?_⟩; go_simp; (with_reducible apply hK); clear hK K)
      (repeat ((with_reducible refine wpQuiet_step (fun K hK => ?_)); refine quiet_autoE (by first | rfl | simp [Region.wanted, yielded]) ?_; apply Exists.intro; refine ⟨fun w' hw' => ?_, ?_⟩; (focus (go_simp; (first | done | rfl | ((try go_ints); (try simp only [↓IntWalk.iteOmega, true_and]); (try go_simp); (first | done | rfl))))); go_simp; (with_reducible apply hK); clear hK K))
      refine wpQuiet_nil ?_
      intro w6 hw6
      rw [← h2.out]
      have H6 : Hid (Blk (w6.drewN 1) w.heap.size 62 (kb b) ∧ Blk (w6.drewN 1) c2 139 (iv .u64 W) ∧ Blk (w6.drewN 1) c3 103 (iv .u64 [x0, x1, x2, x3, x4, x5, x6, x7]) ∧ Below w.heap.size w (w6.drewN 1)) := Lib.hid ⟨(H5.out.1.rw hw6).drew 1, (H5.out.2.1.rw hw6).drew 1, (H5.out.2.2.1.rw hw6).drew 1, below_drewN (Rw.out H5.out.2.2.2 hw6) 1⟩
      generalize twoI b [x0, x1, x2, x3, x4, x5, x6, x7] = tw at *
      clear q0 q1 q2 h2 H5 hw6
      go_upto_region 8 with fail
      (refine wp_region_quiet_tail (C := fun w' => Rw (w6.drewN 1) w') 2 (by kernel_rfl) (by kernel_rfl) (Rw.refl _) ?_; simp only [List.take_succ_cons, List.take_zero, List.drop_succ_cons, List.drop_zero])
      (repeat ((with_reducible refine wpQuiet_step (fun K hK => ?_)); refine quiet_autoE (by first | rfl | simp [Region.wanted, yielded]) ?_; apply Exists.intro; refine ⟨fun w' hw' => ?_, ?_⟩; (focus (go_simp; (first | done | rfl | ((try go_ints); (try simp only [↓IntWalk.iteOmega, true_and]); (try go_simp); (first | done | rfl))))); go_simp; (with_reducible apply hK); clear hK K))
      refine wpQuiet_nil ?_
      intro w7 hw7
      have G7 := H6.out.2.2.1.rw hw7
      refine wpList_copy_own rfl (.tmp 79) (.tmp 80) 142 142 rfl 67 Tryz.underlying142 (by kernel_rfl) c3 1 7 7 ⟨c3, 0, none⟩ 7 8 rfl rfl (iv .u64 [x0, x1, x2, x3, x4, x5, x6, x7]).toArray 103 G7 (iv .u64 [x0, x1, x2, x3, x4, x5, x6]) rfl (fun j v hv => ?src) (by show 1 + 7 ≤ 8; decide) (iv_one _ _) ?_
      case src =>
        rw [Addr.add_lit, Nat.zero_add]
        refine G7.cell j v ?_
        match j, hv with
        | 0, hv | 1, hv | 2, hv | 3, hv | 4, hv | 5, hv | 6, hv => exact hv
      refine list_gen (fun wx => Blk wx w.heap.size 62 (kb b) ∧ Blk wx c2 139 (iv .u64 W) ∧ Blk wx c3 103 (iv .u64 [x0, x0, x1, x2, x3, x4, x5, x6]) ∧ Below w.heap.size w wx) ⟨(H6.out.1.rw hw7).farRow (by omega) _, (H6.out.2.1.rw hw7).farRow (by omega) _, G7.setRow (iv .u64 [x0, x0, x1, x2, x3, x4, x5, x6]), below_row (Rw.out H6.out.2.2.2 hw7) _ _ (by omega)⟩ ?_
      intro w8 Z8
      have H8 := Lib.hid Z8
      clear G7 hw7 H6 Z8
      have c8 : w8.cell? ⟨c3, 4, none⟩ = some (.int .u64 x3) := H8.out.2.2.1.icell 4 (by show 4 < 8; decide)
      go_upto_region 10 with (first | refine load_blk H8.out.1 Tryz.underlying62 rfl kind_size LK.out rfl rfl rfl ?_ | (go_at_call 90; refine (cut_ok' b _ _).mono ?_; rintro e w9 ⟨rfl, hb9⟩; have O9 := H8.out.2.2.1.rw hb9; have c9 := O9.cell 4 _ rfl; have f9 := O9.free 4))
      refine wp_gen (fun wx => Blk wx w.heap.size 62 (kb b) ∧ Blk wx c2 139 (iv .u64 W) ∧ Blk wx c3 103 (iv .u64 [x0, x0, x1, x2, cutI b (IntKind.u64.wrap (x3 + on)), x4, x5, x6]) ∧ Below w.heap.size w wx) ⟨(H8.out.1.rw hb9).far (by omega) _ _, (H8.out.2.1.rw hb9).far (by omega) _ _, O9.iset 4 _, below_set' (Rw.out H8.out.2.2.2 hb9) _ _ _ (by omega)⟩ ?_
      intro w10 Z10
      have H10 := Lib.hid Z10
      clear O9 c9 f9 hb9 c8 H8 Z10
      go_upto_region 11 with (first | refine load_blk H10.out.1 Tryz.underlying62 rfl kind_size LK.out rfl rfl rfl ?_ | (go_at_call 90; refine (cut_ok' b _ _).mono ?_; rintro e w11 ⟨rfl, hb11⟩; have O11 := H10.out.2.2.1.rw hb11; have c11 := O11.cell 0 _ rfl; have f11 := O11.free 0))
      have HS : Hid (Blk (w11.setCell ⟨c3, 0, none⟩ (.int .u64 (cutI b (IntKind.u64.wrap (on + tw))))) w.heap.size 62 (kb b) ∧ Blk (w11.setCell ⟨c3, 0, none⟩ (.int .u64 (cutI b (IntKind.u64.wrap (on + tw))))) c2 139 (iv .u64 W) ∧ Blk (w11.setCell ⟨c3, 0, none⟩ (.int .u64 (cutI b (IntKind.u64.wrap (on + tw))))) c3 103 (iv .u64 (rndL b T W h (t + 1))) ∧ Below w.heap.size w (w11.setCell ⟨c3, 0, none⟩ (.int .u64 (cutI b (IntKind.u64.wrap (on + tw)))))) := Lib.hid ⟨(H10.out.1.rw hb11).far (by omega) _ _, (H10.out.2.1.rw hb11).far (by omega) _ _, by rw [hst.out, hst2.out]; exact O11.iset 0 _, below_set' (Rw.out H10.out.2.2.2 hb11) _ _ _ (by omega)⟩
      clear O11 c11 f11 hb11 H10 hst hst2
      go_wp2_with fail
      go_roundw
      case rel => exact ⟨t + 1, by go_num, by omega, HS⟩
      case measure => simp [intOf]; omega
    · have htR : t = R := by omega
      rw [htR] at hr
      clear htR
      rw [← HX.out] at hr
      have HB0 : Hid (Blk wr hb 103 (iv .u64 h)) := HK.out.2.2.1.below hr.out.2.2.2 hbl
      have H0 : Hid (Blk wr w.heap.size 62 (kb b) ∧ Blk wr c3 103 (iv .u64 X) ∧ Blk wr hb 103 (iv .u64 (finL b h X 0)) ∧ Keeps (fun k => k = hb) w wr) := Lib.hid ⟨hr.out.1, hr.out.2.2.1, HB0.out, Keeps.of_below hr.out.2.2.2⟩
      clear hr HB0
      go_wp2_with fail
      rw [show decide (t < R) = false from decide_eq_false (by omega)]
      go_loopw [96] (fun v wr => ∃ i : Nat, v = .int .i64 i ∧ i ≤ 8 ∧ Hid (Blk wr w.heap.size 62 (kb b) ∧ Blk wr c3 103 (iv .u64 X) ∧ Blk wr hb 103 (iv .u64 (finL b h X i)) ∧ Keeps (fun k => k = hb) w wr)) (fun v _ => 8 - (intOf v).toNat)
      case atStart => exact ⟨0, rfl, by omega, H0.out⟩
      case round =>
        obtain ⟨i, rfl, hi, hq⟩ := hrel
        clear H0
        rcases Nat.lt_or_ge i 8 with h8 | h8
        · have hfl : (finL b h X i).length = 8 := (fin_len b h X i).trans hl
          have C1 := hq.out.1.drew 1
          have C2 := hq.out.2.1.drew 1
          have C3 := hq.out.2.2.1.drew 1
          have qx : ∀ w', Rw (wr.drewN 1) w' → w'.cell? ⟨c3, i, none⟩ = some (.int .u64 (X.getD i 0)) := fun w' h => (C2.rw h).icell i (by omega)
          have qh : ∀ w', Rw (wr.drewN 1) w' → w'.cell? ⟨hb, i, none⟩ = some (.int .u64 ((finL b h X i).getD i 0)) := fun w' h => (C3.rw h).icell i (by omega)
          have HC := Lib.hid (And.intro C1 (And.intro C2 (And.intro C3 (hq.out.2.2.2.drewN 1))))
          have hfn : Hid (finL b h X (i + 1) = (finL b h X i).set i (cutI b (IntKind.u64.wrap ((finL b h X i).getD i 0 + X.getD i 0)))) := rfl
          generalize X.getD i 0 = xi at *
          generalize hhi : (finL b h X i).getD i 0 = yi at *
          clear C1 C2 C3 hq hhi
          go_upto_region 15 with fail
          (refine wp_region_quiet_tail (C := fun w' => Rw (wr.drewN 1) w') 15 (by kernel_rfl) (by kernel_rfl) (Rw.refl _) ?_; simp only [List.take_succ_cons, List.take_zero, List.drop_succ_cons, List.drop_zero])
          (iterate 2 ((with_reducible refine wpQuiet_step (fun K hK => ?_)); refine quiet_autoE (by first | rfl | simp [Region.wanted, yielded]) ?_; apply Exists.intro; refine ⟨fun w' hw' => ?_, ?_⟩; (focus (go_simp; (first | done | rfl | ((try go_ints); (try simp only [↓IntWalk.iteOmega, true_and]); (try go_simp); (first | done | rfl))))); go_simp; (with_reducible apply hK); clear hK K))
          ((with_reducible refine wpQuiet_step (fun K hK => ?_)); refine quiet_loadB (n := 14) (fun w' hw' => HC.out.1.rw hw') Tryz.underlying62 rfl (by kernel_rfl) (LK.out) (by first | rfl | simp [Region.wanted, yielded]) rfl (by go_simp) ?_; go_simp; (with_reducible apply hK); clear hK K)
          (iterate 9 ((with_reducible refine wpQuiet_step (fun K hK => ?_)); refine quiet_autoE (by first | rfl | simp [Region.wanted, yielded]) ?_; apply Exists.intro; refine ⟨fun w' hw' => ?_, ?_⟩; (focus (go_simp; (first | done | rfl | ((try go_ints); (try simp only [↓IntWalk.iteOmega, true_and]); (try go_simp); (first | done | rfl))))); go_simp; (with_reducible apply hK); clear hK K))
          ((with_reducible refine wpQuiet_step (fun K hK => ?_)); refine quiet_callE (by first | rfl | simp [Region.wanted, yielded]) ?_; apply Exists.intro; apply Exists.intro; refine ⟨fun w' => ?_, ?_⟩; (focus (go_simp; try (first | exact ⟨rfl, rfl⟩ | rfl))); apply Exists.intro; refine ⟨fun w' hw' => quiet_below hw' (cut_ok' b _ w'), ?_⟩; go_simp; (with_reducible apply hK); clear hK K)
          (repeat ((with_reducible refine wpQuiet_step (fun K hK => ?_)); refine quiet_autoE (by first | rfl | simp [Region.wanted, yielded]) ?_; apply Exists.intro; refine ⟨fun w' hw' => ?_, ?_⟩; (focus (go_simp; (first | done | rfl | ((try go_ints); (try simp only [↓IntWalk.iteOmega, true_and]); (try go_simp); (first | done | rfl))))); go_simp; (with_reducible apply hK); clear hK K))
          refine wpQuiet_nil ?_
          intro w5 hw5
          have O3 := HC.out.2.2.1.rw hw5
          have ch := O3.icell i (by omega)
          have fh := O3.free i
          have S3 := O3.iset i (cutI b (IntKind.u64.wrap (yi + xi)))
          rw [← hfn.out] at S3
          have KW : Keeps (fun k => k = hb) w w5 := HC.out.2.2.2.trans (Keeps.of_below (F := fun _ => False) hw5) (fun _ _ f => f.elim)
          have HS := Lib.hid (And.intro ((HC.out.1.rw hw5).far (show w.heap.size ≠ hb by omega) i (.int .u64 (cutI b (IntKind.u64.wrap (yi + xi))))) (And.intro ((HC.out.2.1.rw hw5).far (show c3 ≠ hb by omega) i (.int .u64 (cutI b (IntKind.u64.wrap (yi + xi))))) (And.intro S3 (KW.set hb i (.int .u64 (cutI b (IntKind.u64.wrap (yi + xi)))) (fun _ => rfl)))))
          clear O3 S3 KW hw5 HC hfn qx qh
          go_wp2_with fail
          go_roundw
          case rel => exact ⟨i + 1, by go_num, by omega, HS.out⟩
          case measure => simp [intOf]; omega
        · have hi8 : i = 8 := by omega
          rw [hi8] at hq
          clear hi8
          go_wp2_with fail
          go_end0
          exact ⟨rfl, hq.out.2.2.1, hq.out.2.2.2⟩
end Go.Proofs.YtkhdhiddhnmdkaaGreatDoor

namespace Go.Proofs.YtkhdhiddhnmdkaaGreatDoor
open Go.Shelf Go.RowKit Go.Lib
def Sh.lays156_ren : Go.Shelf.Ren := ⟨fun | 156 => 51 | 165 => 82 | 166 => 83 | 169 => 55 | 240 => 87 | 241 => 101 | 276 => 103 | 277 => 115 | 167 => 54 | 170 => 86 | n => n, fun | 31 => 34 | 9 => 9 | 3 => 3 | 4 => 4 | 0 => 0 | 20 => 20 | 72 => 93 | 76 => 132 | 70 => 91 | 37 => 50 | 75 => 27 | 127 => 138 | 164 => 156 | 5 => 5 | 80 => 32 | n => n, fun | n => n⟩
theorem Sh.lays156 : Go.Proofs.Lays.n156 Tryz.prog Sh.lays156_ren := {
  mixed := by kernel_rfl
  f156 := Tryz.func51.trans (congrArg some (by kernel_rfl))
  f165 := Tryz.func82.trans (congrArg some (by kernel_rfl))
  f166 := Tryz.func83.trans (congrArg some (by kernel_rfl))
  f169 := Tryz.func55.trans (congrArg some (by kernel_rfl))
  f240 := Tryz.func87.trans (congrArg some (by kernel_rfl))
  f241 := Tryz.func101.trans (congrArg some (by kernel_rfl))
  f276 := Tryz.func103.trans (congrArg some (by kernel_rfl))
  f277 := Tryz.func115.trans (congrArg some (by kernel_rfl))
  t0 := Tryz.underlying0
  a0 := Tryz.isAgg0
  z0 := Tryz.sizeOf0
  v0 := Tryz.zeroValue0
  t3 := Tryz.underlying3
  a3 := Tryz.isAgg3
  z3 := Tryz.sizeOf3
  v3 := Tryz.zeroValue3
  t4 := Tryz.underlying4
  a4 := Tryz.isAgg4
  z4 := Tryz.sizeOf4
  v4 := Tryz.zeroValue4
  t9 := Tryz.underlying9
  a9 := Tryz.isAgg9
  z9 := Tryz.sizeOf9
  v9 := Tryz.zeroValue9
  t20 := Tryz.underlying20
  a20 := Tryz.isAgg20
  z20 := Tryz.sizeOf20
  v20 := Tryz.zeroValue20
  t31 := Tryz.underlying34
  a31 := Tryz.isAgg34
  z31 := Tryz.sizeOf34
  v31 := Tryz.zeroValue34
  t37 := Tryz.underlying50
  a37 := Tryz.isAgg50
  z37 := Tryz.sizeOf50
  v37 := Tryz.zeroValue50
  t70 := Tryz.underlying91
  a70 := Tryz.isAgg91
  z70 := Tryz.sizeOf91
  v70 := Tryz.zeroValue91
  t72 := Tryz.underlying93
  a72 := Tryz.isAgg93
  z72 := Tryz.sizeOf93
  v72 := Tryz.zeroValue93
  t75 := Tryz.underlying27
  a75 := Tryz.isAgg27
  z75 := Tryz.sizeOf27
  v75 := Tryz.zeroValue27
  t76 := Tryz.underlying132
  a76 := Tryz.isAgg132
  z76 := Tryz.sizeOf132
  v76 := Tryz.zeroValue132
  t127 := Tryz.underlying138
  a127 := Tryz.isAgg138
  z127 := Tryz.sizeOf138
  v127 := Tryz.zeroValue138
  t164 := Tryz.underlying156
  a164 := Tryz.isAgg156
  z164 := Tryz.sizeOf156
  v164 := Tryz.zeroValue156 }
theorem Sh.extra156 : Builder.Extra Tryz.prog Sh.lays156_ren := {
  sizeBuilder := by kernel_rfl
  liesBuilder := by kernel_rfl
  t5 := Tryz.underlying5
  a5 := Tryz.isAgg5
  z5 := Tryz.sizeOf5
  v5 := Tryz.zeroValue5
  infoByte := by kernel_rfl
  cellsByte := by kernel_rfl
  sizeByte := by kernel_rfl
  neB5 := by decide }
theorem sh_join (bk o c : Nat) (xs : List ByteArray) (sep : ByteArray) (w : World) (hcells : ∀ (j : Nat) x, xs[j]? = some x → w.cell? ⟨bk, o + j, none⟩ = some (.string x)) (hbk : bk < w.heap.size) (hN : xs.length ≤ 140737488355328) (hcap : xs.length ≤ c) (hlen : (Lib.join (xs.map (·.data.toList)) sep.data.toList).length ≤ 140737488355328) :
    Calls Tryz.prog 51 #[.slice (some ⟨bk, o, none⟩) xs.length c, .string sep] w fun e w' => e = .returned (.string ⟨(Lib.join (xs.map (·.data.toList)) sep.data.toList).toArray⟩) ∧ Below w.heap.size w w' := Any.strings_Join Sh.lays156 Sh.extra156 bk o c xs sep w hcells hbk hN hcap hlen
theorem sh_join_none (a : Option Addr) (c : Nat) (sep : ByteArray) (w : World) :
    Calls Tryz.prog 51 #[.slice a 0 c, .string sep] w fun e w' => e = .returned (.string ⟨#[]⟩) ∧ w' = w := Any.strings_Join_none Sh.lays156 Sh.extra156 a c sep w
theorem sh_wstring (B b : Nat) (bs : List Value) (s : ByteArray) (w : World) (h : Lib.IsBuilder 93 5 B b bs w) (hlen : bs.length + s.size ≤ 140737488355328) (hBw : B ≤ w.heap.size) :
    Calls Tryz.prog 83 #[.pointer (some ⟨b, 0, none⟩), .string s] w fun e w' => e = .returned (.tuple #[.int .i64 s.size, .nilIface]) ∧ (Lib.BuilderAt 93 5 B b (.pointer (some ⟨b, 0, none⟩)) (bs ++ Lib.strCells s) w' ∧ Below B w w') :=
  Any.Builder_WriteString (ρ := Sh.lays156_ren) { Sh.lays156 with } Sh.extra156 B b bs s w h hlen hBw
theorem sh_string (B b : Nat) (l : List UInt8) (w : World) (h : Lib.IsBuilder 93 5 B b (Lib.byteCells l) w) (hBw : B ≤ w.heap.size) :
    Calls Tryz.prog 55 #[.pointer (some ⟨b, 0, none⟩)] w fun e w' => e = .returned (.string ⟨l.toArray⟩) ∧ Below B w w' := Any.Builder_String_any (ρ := Sh.lays156_ren) { Sh.lays156 with } Sh.extra156 B b l w h hBw
theorem sh_wbyte (B b : Nat) (bs : List Value) (c : Int) (w : World) (h : Lib.IsBuilder 93 5 B b bs w) (hlen : bs.length + 1 ≤ 140737488355328) (hBw : B ≤ w.heap.size) :
    Calls Tryz.prog 54 #[.pointer (some ⟨b, 0, none⟩), .int .u8 c] w fun e w' => e = .returned .nilIface ∧ (Lib.BuilderAt 93 5 B b (.pointer (some ⟨b, 0, none⟩)) (bs ++ [.int .u8 c]) w' ∧ Below B w w') :=
  Any.Builder_WriteByte (ρ := Sh.lays156_ren) { Sh.lays156 with f167 := Tryz.func54.trans (congrArg some (by kernel_rfl)), t5 := Sh.extra156.t5, a5 := Sh.extra156.a5, z5 := Sh.extra156.z5, v5 := Sh.extra156.v5 } Sh.extra156 B b bs c w h hlen hBw
theorem sh_len (B b : Nat) (bs : List Value) (w : World) (h : Lib.IsBuilder 93 5 B b bs w) :
    Calls Tryz.prog 86 #[.pointer (some ⟨b, 0, none⟩)] w fun e w' => e = .returned (.int .i64 bs.length) ∧ w' = w := Any.Builder_Len (ρ := Sh.lays156_ren) { Sh.lays156 with f170 := Tryz.func86.trans (congrArg some (by kernel_rfl)) } B b bs w h
def Sh.lays105_ren : Go.Shelf.Ren := ⟨fun | 105 => 53 | 212 => 84 | 99 => 85 | 165 => 82 | 166 => 83 | 170 => 86 | 169 => 55 | 263 => 102 | 264 => 71 | 206 => 100 | 240 => 87 | 241 => 101 | 276 => 103 | 277 => 115 | n => n, fun | 9 => 9 | 3 => 3 | 4 => 4 | 20 => 20 | 0 => 0 | 46 => 106 | 109 => 134 | 5 => 5 | 72 => 93 | 76 => 132 | 51 => 129 | 146 => 154 | 53 => 67 | 148 => 122 | 70 => 91 | 37 => 50 | 75 => 27 | 127 => 138 | 164 => 156 | 80 => 32 | n => n, fun | n => n⟩
theorem Sh.lays105 : Go.Proofs.Lays.n105 Tryz.prog Sh.lays105_ren := {
  mixed := by kernel_rfl
  f99 := Tryz.func85.trans (congrArg some (by kernel_rfl))
  f105 := Tryz.func53.trans (congrArg some (by kernel_rfl))
  f165 := Tryz.func82.trans (congrArg some (by kernel_rfl))
  f166 := Tryz.func83.trans (congrArg some (by kernel_rfl))
  f169 := Tryz.func55.trans (congrArg some (by kernel_rfl))
  f170 := Tryz.func86.trans (congrArg some (by kernel_rfl))
  f206 := Tryz.func100.trans (congrArg some (by kernel_rfl))
  f212 := Tryz.func84.trans (congrArg some (by kernel_rfl))
  f240 := Tryz.func87.trans (congrArg some (by kernel_rfl))
  f241 := Tryz.func101.trans (congrArg some (by kernel_rfl))
  f263 := Tryz.func102.trans (congrArg some (by kernel_rfl))
  f264 := Tryz.func71.trans (congrArg some (by kernel_rfl))
  f276 := Tryz.func103.trans (congrArg some (by kernel_rfl))
  f277 := Tryz.func115.trans (congrArg some (by kernel_rfl))
  t0 := Tryz.underlying0
  a0 := Tryz.isAgg0
  z0 := Tryz.sizeOf0
  v0 := Tryz.zeroValue0
  t3 := Tryz.underlying3
  a3 := Tryz.isAgg3
  z3 := Tryz.sizeOf3
  v3 := Tryz.zeroValue3
  t4 := Tryz.underlying4
  a4 := Tryz.isAgg4
  z4 := Tryz.sizeOf4
  v4 := Tryz.zeroValue4
  t5 := Tryz.underlying5
  a5 := Tryz.isAgg5
  z5 := Tryz.sizeOf5
  v5 := Tryz.zeroValue5
  t9 := Tryz.underlying9
  a9 := Tryz.isAgg9
  z9 := Tryz.sizeOf9
  v9 := Tryz.zeroValue9
  t20 := Tryz.underlying20
  a20 := Tryz.isAgg20
  z20 := Tryz.sizeOf20
  v20 := Tryz.zeroValue20
  t37 := Tryz.underlying50
  a37 := Tryz.isAgg50
  z37 := Tryz.sizeOf50
  v37 := Tryz.zeroValue50
  t46 := Tryz.underlying106
  a46 := Tryz.isAgg106
  z46 := Tryz.sizeOf106
  v46 := Tryz.zeroValue106
  t51 := Tryz.underlying129
  a51 := Tryz.isAgg129
  z51 := Tryz.sizeOf129
  v51 := Tryz.zeroValue129
  t53 := Tryz.underlying67
  a53 := Tryz.isAgg67
  z53 := Tryz.sizeOf67
  v53 := Tryz.zeroValue67
  t70 := Tryz.underlying91
  a70 := Tryz.isAgg91
  z70 := Tryz.sizeOf91
  v70 := Tryz.zeroValue91
  t72 := Tryz.underlying93
  a72 := Tryz.isAgg93
  z72 := Tryz.sizeOf93
  v72 := Tryz.zeroValue93
  t75 := Tryz.underlying27
  a75 := Tryz.isAgg27
  z75 := Tryz.sizeOf27
  v75 := Tryz.zeroValue27
  t76 := Tryz.underlying132
  a76 := Tryz.isAgg132
  z76 := Tryz.sizeOf132
  v76 := Tryz.zeroValue132
  t109 := Tryz.underlying134
  a109 := Tryz.isAgg134
  z109 := Tryz.sizeOf134
  v109 := Tryz.zeroValue134
  t127 := Tryz.underlying138
  a127 := Tryz.isAgg138
  z127 := Tryz.sizeOf138
  v127 := Tryz.zeroValue138
  t146 := Tryz.underlying154
  a146 := Tryz.isAgg154
  z146 := Tryz.sizeOf154
  v146 := Tryz.zeroValue154
  t148 := Tryz.underlying122
  a148 := Tryz.isAgg122
  z148 := Tryz.sizeOf122
  v148 := Tryz.zeroValue122
  t164 := Tryz.underlying156
  a164 := Tryz.isAgg156
  z164 := Tryz.sizeOf156
  v164 := Tryz.zeroValue156 }
theorem Sh.extra105 : Builder.Extra Tryz.prog Sh.lays105_ren := {
  sizeBuilder := by kernel_rfl
  liesBuilder := by kernel_rfl
  t5 := Tryz.underlying5
  a5 := Tryz.isAgg5
  z5 := Tryz.sizeOf5
  v5 := Tryz.zeroValue5
  infoByte := by kernel_rfl
  cellsByte := by kernel_rfl
  sizeByte := by kernel_rfl
  neB5 := by decide }
theorem sh_repeat (s : ByteArray) (c : Nat) (w : World) (hc : c ≤ 9223372036854775807) (hlen : s.size * c ≤ 140737488355328) :
    Calls Tryz.prog 53 #[.string s, .int .i64 c] w fun e w' => e = .returned (.string ⟨(Lib.repeatL s.data.toList c).toArray⟩) ∧ Below w.heap.size w w' := Any.strings_Repeat Sh.lays105 Sh.extra105 s c w hc hlen
def Sh.lays264_ren : Go.Shelf.Ren := ⟨fun | 264 => 71 | n => n, fun | 53 => 67 | 46 => 106 | n => n, fun | n => n⟩
theorem Sh.lays264 : Go.Proofs.Lays.n264 Tryz.prog Sh.lays264_ren := {
  mixed := by kernel_rfl
  f264 := Tryz.func71.trans (congrArg some (by kernel_rfl))
  t46 := Tryz.underlying106
  a46 := Tryz.isAgg106
  z46 := Tryz.sizeOf106
  v46 := Tryz.zeroValue106
  t53 := Tryz.underlying67
  a53 := Tryz.isAgg67
  z53 := Tryz.sizeOf67
  v53 := Tryz.zeroValue67 }
def Sh.lays212_ren : Go.Shelf.Ren := ⟨fun | 212 => 84 | 263 => 102 | 264 => 71 | n => n, fun | 46 => 106 | 51 => 129 | 146 => 154 | 53 => 67 | 148 => 122 | n => n, fun | n => n⟩
theorem Sh.lays212 : Go.Proofs.Lays.n212 Tryz.prog Sh.lays212_ren := {
  mixed := by kernel_rfl
  f212 := Tryz.func84.trans (congrArg some (by kernel_rfl))
  f263 := Tryz.func102.trans (congrArg some (by kernel_rfl))
  f264 := Tryz.func71.trans (congrArg some (by kernel_rfl))
  t46 := Tryz.underlying106
  a46 := Tryz.isAgg106
  z46 := Tryz.sizeOf106
  v46 := Tryz.zeroValue106
  t51 := Tryz.underlying129
  a51 := Tryz.isAgg129
  z51 := Tryz.sizeOf129
  v51 := Tryz.zeroValue129
  t53 := Tryz.underlying67
  a53 := Tryz.isAgg67
  z53 := Tryz.sizeOf67
  v53 := Tryz.zeroValue67
  t146 := Tryz.underlying154
  a146 := Tryz.isAgg154
  z146 := Tryz.sizeOf154
  v146 := Tryz.zeroValue154
  t148 := Tryz.underlying122
  a148 := Tryz.isAgg122
  z148 := Tryz.sizeOf122
  v148 := Tryz.zeroValue122 }
theorem sh_mul64 (x y : Nat) (hx : x < 18446744073709551616) (hy : y < 18446744073709551616) (w : World) :
    Calls Tryz.prog 71 #[.int .u64 x, .int .u64 y] w fun e w' => e = .returned (.tuple #[.int .u64 ((x * y / 18446744073709551616 : Nat) : Int), .int .u64 ((x * y % 18446744073709551616 : Nat) : Int)]) ∧ w' = w := Any.bits_Mul64 Sh.lays264 x y hx hy w
end Go.Proofs.YtkhdhiddhnmdkaaGreatDoor
