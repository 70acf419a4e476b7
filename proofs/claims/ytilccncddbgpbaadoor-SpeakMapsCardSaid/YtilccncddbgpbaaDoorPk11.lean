/-
sha2: a block goes into the words.
-/
import Derived.Laws.CopyOwn
import Derived.Test.YtilccncddbgpbaaDoorPk10
namespace Go.Proofs.YtilccncddbgpbaaDoor
open Go.RowKit Sha
set_option maxRecDepth 100000
namespace Sha
abbrev notI (x : Int) : Int := bits .xor .u64 (if IntKind.u64.signed = true then -1 else IntKind.u64.max) x
def oneI (b : Bool) (kt wt : Int) (x : List Int) : Int :=
  w64 (w64 (w64 (w64 (x.getD 7 0 + lg1 b (x.getD 4 0)) + bits .xor .u64 (bits .and .u64 (x.getD 4 0) (x.getD 5 0)) (bits .and .u64 (notI (x.getD 4 0)) (x.getD 6 0))) + wordI b kt) + wt)
def twoI (b : Bool) (x : List Int) : Int :=
  w64 (lg0 b (x.getD 0 0) + bits .xor .u64 (bits .xor .u64 (bits .and .u64 (x.getD 0 0) (x.getD 1 0)) (bits .and .u64 (x.getD 0 0) (x.getD 2 0))) (bits .and .u64 (x.getD 1 0) (x.getD 2 0)))
def stepX (b : Bool) (kt wt : Int) (x : List Int) : List Int :=
  [cutI b (w64 (oneI b kt wt x + twoI b x)), x.getD 0 0, x.getD 1 0, x.getD 2 0, cutI b (w64 (x.getD 3 0 + oneI b kt wt x)), x.getD 4 0, x.getD 5 0, x.getD 6 0]
def rndL (b : Bool) (T W h : List Int) : Nat → List Int
  | 0 => h
  | t + 1 => stepX b (T.getD t 0) (W.getD t 0) (rndL b T W h t)
theorem rnd_len (b : Bool) (T W h : List Int) (hl : h.length = 8) : ∀ t, (rndL b T W h t).length = 8
  | 0 => hl
  | _ + 1 => rfl
def finL (b : Bool) (h x : List Int) : Nat → List Int
  | 0 => h
  | i + 1 => (finL b h x i).set i (cutI b (w64 ((finL b h x i).getD i 0 + x.getD i 0)))
theorem fin_len (b : Bool) (h x : List Int) : ∀ i, (finL b h x i).length = h.length
  | 0 => rfl
  | i + 1 => by rw [finL, List.length_set, fin_len b h x i]
def mixF (b : Bool) (T h : List Int) (s : List UInt8) : List Int := finL b h (rndL b T (schL b s (kr b)) h (kr b)) 8
theorem mix_len (b : Bool) (T h : List Int) (s : List UInt8) : (mixF b T h s).length = h.length := fin_len b h _ 8
end Sha
/-- the tables lie where they should -/
structure ShaT (w : World) (T F : List Int) : Prop where
  t : T.length = 80
  f : F.length = 8
  ct : ∀ i, i < 80 → w.cell? ⟨1, i, none⟩ = some (.int .u64 (T.getD i 0))
  cf : ∀ i, i < 8 → w.cell? ⟨0, i, none⟩ = some (.int .u64 (F.getD i 0))
theorem ShaT.keeps {w w' : World} {T F : List Int} {b : Nat} (h : ShaT w T F) (hk : Keeps (fun k => k = b) w w') (h1 : 1 ≠ b) (h2 : 0 ≠ b) : ShaT w' T F :=
  ⟨h.t, h.f, fun i hi => hk.cell (h.ct i hi) h1, fun i hi => hk.cell (h.cf i hi) h2⟩
theorem ShaT.below {w w' : World} {T F : List Int} (h : ShaT w T F) (hk : Below w.heap.size w w') : ShaT w' T F :=
  ⟨h.t, h.f, fun i hi => (Keeps.of_below (F := fun _ => False) hk).cell (h.ct i hi) id, fun i hi => (Keeps.of_below (F := fun _ => False) hk).cell (h.cf i hi) id⟩
def z80 : List Int := List.replicate 80 0
theorem zc80 : Obj.cells Tryd.zeroCells101 101 = .cells (iv .u64 z80).toArray 101 := by kernel_rfl
theorem z80_len : (iv .u64 z80).length = 80 := rfl
def z8 : List Int := List.replicate 8 0
theorem z8_len : (iv .u64 z8).length = 8 := rfl
theorem arr8_size : (Tryd.prog.info? 67).map (·.size) = some 8 := by kernel_rfl
set_option maxHeartbeats 8000000 in
theorem mix_ok (b : Bool) (T F h : List Int) (hb : Nat) (s : ByteArray) (hs : s.size = 2 * kw b) (w : World) (hT : ShaT w T F) (hB : Blk w hb 67 (iv .u64 h)) (hl : h.length = 8) (hne : 1 ≠ hb) :
    Calls Tryd.prog 35 #[.agg (kb b).toArray, .pointer (some ⟨hb, 0, none⟩), .string s] w fun e w' => e = .returned (.tuple #[]) ∧ Blk w' hb 67 (iv .u64 (mixF b T h s.data.toList)) ∧ Keeps (fun k => k = hb) w w' := by
  obtain ⟨R, hR, hR2⟩ : ∃ R : Nat, R = kr b ∧ R ≤ 80 := ⟨_, rfl, kr_le b⟩
  obtain ⟨W, hW⟩ : ∃ W, W = schL b s.data.toList (kr b) := ⟨_, rfl⟩
  have hWl : W.length = 80 := by rw [hW]; exact schL_len _ _ _
  have hsch := fun w => sched_ok b s hs w
  unfold mixF
  rw [← hW, ← hR]
  rw [← hW] at hsch
  have HS := Lib.hid hsch
  obtain ⟨X, hX⟩ : ∃ X, X = rndL b T W h R := ⟨_, rfl⟩
  have hXl : X.length = 8 := by rw [hX]; exact rnd_len b T W h hl R
  rw [← hX]
  have HX := Lib.hid hX
  clear hX
  have HK := Lib.hid (And.intro hR (And.intro hT (And.intro hB (And.intro hl hne))))
  have hbl := hB.lt
  clear hs hR hsch hT hB hne hW
  go_enter Tryd.func35, Tryd.ntmps35
  go_upto_region 1 with fail
  refine wp_gen (fun wx => Blk wx w.heap.size 41 (kb b) ∧ Below w.heap.size w wx) ⟨Blk.new w _ _, below1 _ _⟩ ?_
  rintro w1 ⟨B1, BW⟩
  have HB1 := Lib.hid (And.intro B1 BW)
  have LK : Hid ((kb b).length = 14) := by rw [iv_len]; cases b <;> rfl
  clear B1 BW
  have LW : Hid ((iv .u64 W).length = 80) := by rw [iv_len]; exact hWl
  go_upto_region 2 with (first | refine load_blk HB1.out.1 Tryd.underlying41 rfl kind_size LK.out rfl rfl rfl ?_ | (go_at_call 52; refine (HS.out _).mono ?_; rintro e w2 ⟨rfl, hb2⟩) | (rw [zc80]; refine store_blk (Blk.new w2 _ (iv .u64 z80)) arr80_size LW.out z80_len (iv_one _ _) rfl rfl rfl rfl ?_))
  have N2 := new_row w2 101 (iv .u64 z80) (iv .u64 W)
  refine wp_gen (fun wx => Blk wx w2.heap.size 101 (iv .u64 W) ∧ Rw w1 wx) ⟨N2.1, Rw.trans hb2 N2.2⟩ ?_
  rintro w3 ⟨B3, R3⟩
  have g2 : w.heap.size < w2.heap.size := Nat.lt_of_lt_of_le HB1.out.1.lt hb2.size
  generalize w2.heap.size = c2 at *
  have H3 := Lib.hid (And.intro (HB1.out.1.rw R3) (And.intro B3 (Rw.out HB1.out.2 R3)))
  have HH : Hid (Blk w3 hb 67 (iv .u64 h)) := HK.out.2.2.1.below H3.out.2.2 hbl
  have LH : Hid ((iv .u64 h).length = 8) := by rw [iv_len]; exact hl
  clear N2 B3 R3 HB1 hb2 HS
  go_upto_region 3 with (first | refine load_blk HH.out Tryd.underlying67 rfl arr8_size LH.out rfl rfl rfl ?_ | refine store_blk (Blk.new w3 _ (iv .u64 z8)) arr8_size LH.out z8_len (iv_one _ _) rfl rfl rfl rfl ?_)
  have N4 := new_row w3 67 (iv .u64 z8) (iv .u64 h)
  refine wp_gen (fun wx => Blk wx w3.heap.size 67 (iv .u64 h) ∧ Rw w3 wx) ⟨N4.1, N4.2⟩ ?_
  rintro w4 ⟨B4, R4⟩
  have g3 : c2 < w3.heap.size := H3.out.2.1.lt
  generalize hc3 : w3.heap.size = c3 at *
  have H4 : Hid (Blk w4 w.heap.size 41 (kb b) ∧ Blk w4 c2 101 (iv .u64 W) ∧ Blk w4 c3 67 (iv .u64 h) ∧ Below w.heap.size w w4) := Lib.hid ⟨H3.out.1.rw R4, H3.out.2.1.rw R4, B4, Rw.out H3.out.2.2 R4⟩
  have k1 : w4.cell? ⟨w.heap.size, 1, none⟩ = some (.int .i64 (R : Nat)) := by rw [HK.out.1]; cases b <;> exact H4.out.1.cell 1 _ rfl
  clear N4 B4 R4 H3 HH LH hc3
  go_wp2_with fail
  clear k1
  go_loopw [20] (fun v wr => ∃ t : Nat, v = .int .i64 t ∧ t ≤ R ∧ Hid (Blk wr w.heap.size 41 (kb b) ∧ Blk wr c2 101 (iv .u64 W) ∧ Blk wr c3 67 (iv .u64 (rndL b T W h t)) ∧ Below w.heap.size w wr)) (fun v _ => R - (intOf v).toNat)
  case atStart => exact ⟨0, rfl, by omega, H4.out⟩
  case round =>
    obtain ⟨t, rfl, ht, hr⟩ := hrel
    clear H4
    rcases Nat.lt_or_ge t R with hlt | hge
    · have hdt : decide ((t : Int) < (R : Int)) = true := decide_eq_true (by omega)
      have hxl := rnd_len b T W h hl t
      have hst : Hid (rndL b T W h (t + 1) = stepX b (T.getD t 0) (W.getD t 0) (rndL b T W h t)) := rfl
      generalize rndL b T W h t = x at *
      obtain ⟨x0, x1, x2, x3, x4, x5, x6, x7, rfl⟩ := list8 x hxl
      have Hwr : Hid (Blk (wr.drewN 1) w.heap.size 41 (kb b) ∧ Blk (wr.drewN 1) c2 101 (iv .u64 W) ∧ Blk (wr.drewN 1) c3 67 (iv .u64 [x0, x1, x2, x3, x4, x5, x6, x7]) ∧ Below w.heap.size w (wr.drewN 1)) := Lib.hid ⟨hr.out.1.drew 1, hr.out.2.1.drew 1, hr.out.2.2.1.drew 1, below_drewN hr.out.2.2.2 1⟩
      have qW : ∀ w', Rw (wr.drewN 1) w' → w'.cell? ⟨c2, t, none⟩ = some (.int .u64 (W.getD t 0)) := fun w' h => (Hwr.out.2.1.rw h).icell t (by omega)
      have qT : ∀ w', Rw (wr.drewN 1) w' → w'.cell? ⟨1, t, none⟩ = some (.int .u64 (T.getD t 0)) := fun w' h => (HK.out.2.1.below (Rw.out Hwr.out.2.2.2 h)).ct t (by omega)
      have q0 : ∀ w', Rw (wr.drewN 1) w' → w'.cell? ⟨c3, 0, none⟩ = some (.int .u64 x0) := fun w' h => (Hwr.out.2.2.1.rw h).icell 0 (by show 0 < 8; decide)
      have q1 : ∀ w', Rw (wr.drewN 1) w' → w'.cell? ⟨c3, 1, none⟩ = some (.int .u64 x1) := fun w' h => (Hwr.out.2.2.1.rw h).icell 1 (by show 1 < 8; decide)
      have q2 : ∀ w', Rw (wr.drewN 1) w' → w'.cell? ⟨c3, 2, none⟩ = some (.int .u64 x2) := fun w' h => (Hwr.out.2.2.1.rw h).icell 2 (by show 2 < 8; decide)
      have q3 : ∀ w', Rw (wr.drewN 1) w' → w'.cell? ⟨c3, 3, none⟩ = some (.int .u64 x3) := fun w' h => (Hwr.out.2.2.1.rw h).icell 3 (by show 3 < 8; decide)
      have q4 : ∀ w', Rw (wr.drewN 1) w' → w'.cell? ⟨c3, 4, none⟩ = some (.int .u64 x4) := fun w' h => (Hwr.out.2.2.1.rw h).icell 4 (by show 4 < 8; decide)
      have q5 : ∀ w', Rw (wr.drewN 1) w' → w'.cell? ⟨c3, 5, none⟩ = some (.int .u64 x5) := fun w' h => (Hwr.out.2.2.1.rw h).icell 5 (by show 5 < 8; decide)
      have q6 : ∀ w', Rw (wr.drewN 1) w' → w'.cell? ⟨c3, 6, none⟩ = some (.int .u64 x6) := fun w' h => (Hwr.out.2.2.1.rw h).icell 6 (by show 6 < 8; decide)
      have q7 : ∀ w', Rw (wr.drewN 1) w' → w'.cell? ⟨c3, 7, none⟩ = some (.int .u64 x7) := fun w' h => (Hwr.out.2.2.1.rw h).icell 7 (by show 7 < 8; decide)
      generalize T.getD t 0 = kt at *
      generalize W.getD t 0 = wt at *
      have h1 : Hid (oneI b kt wt [x0, x1, x2, x3, x4, x5, x6, x7] = IntKind.u64.wrap (IntKind.u64.wrap (IntKind.u64.wrap (IntKind.u64.wrap (x7 + lg1 b x4) + bits .xor .u64 (bits .and .u64 x4 x5) (bits .and .u64 (bits .xor .u64 (if IntKind.u64.signed = true then -1 else IntKind.u64.max) x4) x6)) + wordI b kt) + wt)) := rfl
      have hr0 := hr
      clear hr q0 q1 q2 q3
      go_upto_region 6 with fail
      (refine region_quiet (C := fun w' => Rw (wr.drewN 1) w') (by kernel_rfl) (by kernel_rfl) (Rw.refl _) ?_)
      (iterate 2 ((with_reducible refine wpQuiet_step (fun K hK => ?_)); refine quiet_autoE (by first | rfl | simp [Region.wanted, yielded]) ?_; apply Exists.intro; refine ⟨fun w' hw' => ?_, ?_⟩; (focus (go_simp; (first | done | rfl | ((try go_ints); (try simp only [↓IntWalk.iteOmega, true_and]); (try go_simp); (first | done | rfl))))); go_simp; (with_reducible apply hK); clear hK K))
      ((with_reducible refine wpQuiet_step (fun K hK => ?_)); refine quiet_loadB (n := 14) (fun w' hw' => Hwr.out.1.rw hw') Tryd.underlying41 rfl (by kernel_rfl) (LK.out) (by first | rfl | simp [Region.wanted, yielded]) rfl (by go_simp) ?_; go_simp; (with_reducible apply hK); clear hK K)
      (iterate 3 ((with_reducible refine wpQuiet_step (fun K hK => ?_)); refine quiet_autoE (by first | rfl | simp [Region.wanted, yielded]) ?_; apply Exists.intro; refine ⟨fun w' hw' => ?_, ?_⟩; (focus (go_simp; (first | done | rfl | ((try go_ints); (try simp only [↓IntWalk.iteOmega, true_and]); (try go_simp); (first | done | rfl))))); go_simp; (with_reducible apply hK); clear hK K))
      ((with_reducible refine wpQuiet_step (fun K hK => ?_)); refine quiet_loadN (fun w' hw' => kb_range b 11 (by decide) (Hwr.out.1.rw hw')) Tryd.underlying39 rfl (by kernel_rfl) (by first | rfl | simp [Region.wanted, yielded]) rfl (by go_simp) ?_; go_simp; (with_reducible apply hK); clear hK K)
      ((with_reducible refine wpQuiet_step (fun K hK => ?_)); refine quiet_callE (by first | rfl | simp [Region.wanted, yielded]) ?_; apply Exists.intro; apply Exists.intro; refine ⟨fun w' => ?_, ?_⟩; (focus (go_simp; try (first | exact ⟨rfl, rfl⟩ | rfl))); apply Exists.intro; refine ⟨fun w' hw' => quiet_below hw' (lg1_ok b x4 w'), ?_⟩; go_simp; (with_reducible apply hK); clear hK K)
      (iterate 14 ((with_reducible refine wpQuiet_step (fun K hK => ?_)); refine quiet_autoE (by first | rfl | simp [Region.wanted, yielded]) ?_; apply Exists.intro; refine ⟨fun w' hw' => ?_, ?_⟩; (focus (go_simp; (first | done | rfl | ((try go_ints); (try simp only [↓IntWalk.iteOmega, true_and]); (try go_simp); (first | done | rfl))))); go_simp; (with_reducible apply hK); clear hK K))
      ((with_reducible refine wpQuiet_step (fun K hK => ?_)); refine quiet_loadB (n := 14) (fun w' hw' => Hwr.out.1.rw hw') Tryd.underlying41 rfl (by kernel_rfl) (LK.out) (by first | rfl | simp [Region.wanted, yielded]) rfl (by go_simp) ?_; go_simp; (with_reducible apply hK); clear hK K)
      (iterate 3 ((with_reducible refine wpQuiet_step (fun K hK => ?_)); refine quiet_autoE (by first | rfl | simp [Region.wanted, yielded]) ?_; apply Exists.intro; refine ⟨fun w' hw' => ?_, ?_⟩; (focus (go_simp; (first | done | rfl | ((try go_ints); (try simp only [↓IntWalk.iteOmega]); (try go_simp); (first | done | rfl))))); go_simp; (with_reducible apply hK); clear hK K))
      ((with_reducible refine wpQuiet_step (fun K hK => ?_)); refine quiet_callE (by first | rfl | simp [Region.wanted, yielded]) ?_; apply Exists.intro; apply Exists.intro; refine ⟨fun w' => ?_, ?_⟩; (focus (go_simp; try (first | exact ⟨rfl, rfl⟩ | rfl))); apply Exists.intro; refine ⟨fun w' hw' => quiet_below hw' (word_ok' b _ w'), ?_⟩; go_simp; (with_reducible apply hK); clear hK K)
      (repeat ((with_reducible refine wpQuiet_step (fun K hK => ?_)); refine quiet_autoE (by first | rfl | simp [Region.wanted, yielded]) ?_; apply Exists.intro; refine ⟨fun w' hw' => ?_, ?_⟩; (focus (go_simp; (first | done | rfl | ((try go_ints); (try simp only [↓IntWalk.iteOmega]); (try go_simp); (first | done | rfl))))); go_simp; (with_reducible apply hK); clear hK K))
      refine wpQuiet_nil ?_
      intro w5 hw5
      rw [← h1.out]
      have H5 : Hid (Blk (w5.drewN 1) w.heap.size 41 (kb b) ∧ Blk (w5.drewN 1) c2 101 (iv .u64 W) ∧ Blk (w5.drewN 1) c3 67 (iv .u64 [x0, x1, x2, x3, x4, x5, x6, x7]) ∧ Below w.heap.size w (w5.drewN 1)) := Lib.hid ⟨(Hwr.out.1.rw hw5).drew 1, (Hwr.out.2.1.rw hw5).drew 1, (Hwr.out.2.2.1.rw hw5).drew 1, below_drewN (Rw.out Hwr.out.2.2.2 hw5) 1⟩
      clear q4 q5 q6 q7 qW qT h1 hw5 Hwr hr0
      have q0 : ∀ w', Rw (w5.drewN 1) w' → w'.cell? ⟨c3, 0, none⟩ = some (.int .u64 x0) := fun w' h => (H5.out.2.2.1.rw h).icell 0 (by show 0 < 8; decide)
      have q1 : ∀ w', Rw (w5.drewN 1) w' → w'.cell? ⟨c3, 1, none⟩ = some (.int .u64 x1) := fun w' h => (H5.out.2.2.1.rw h).icell 1 (by show 1 < 8; decide)
      have q2 : ∀ w', Rw (w5.drewN 1) w' → w'.cell? ⟨c3, 2, none⟩ = some (.int .u64 x2) := fun w' h => (H5.out.2.2.1.rw h).icell 2 (by show 2 < 8; decide)
      have h2 : Hid (twoI b [x0, x1, x2, x3, x4, x5, x6, x7] = IntKind.u64.wrap (lg0 b x0 + bits .xor .u64 (bits .xor .u64 (bits .and .u64 x0 x1) (bits .and .u64 x0 x2)) (bits .and .u64 x1 x2))) := rfl
      have hst2 : Hid (stepX b kt wt [x0, x1, x2, x3, x4, x5, x6, x7] = [cutI b (IntKind.u64.wrap (oneI b kt wt [x0, x1, x2, x3, x4, x5, x6, x7] + twoI b [x0, x1, x2, x3, x4, x5, x6, x7])), x0, x1, x2, cutI b (IntKind.u64.wrap (x3 + oneI b kt wt [x0, x1, x2, x3, x4, x5, x6, x7])), x4, x5, x6]) := rfl
      generalize oneI b kt wt [x0, x1, x2, x3, x4, x5, x6, x7] = on at *
      go_upto_region 7 with fail
      (refine region_quiet (C := fun w' => Rw (w5.drewN 1) w') (by kernel_rfl) (by kernel_rfl) (Rw.refl _) ?_)
      ((with_reducible refine wpQuiet_step (fun K hK => ?_)); refine quiet_loadB (n := 14) (fun w' hw' => H5.out.1.rw hw') Tryd.underlying41 rfl (by kernel_rfl) (LK.out) (by first | rfl | simp [Region.wanted, yielded]) rfl (by go_simp) ?_; go_simp; (with_reducible apply hK); clear hK K)
      (iterate 3 ((with_reducible refine wpQuiet_step (fun K hK => ?_)); refine quiet_autoE (by first | rfl | simp [Region.wanted, yielded]) ?_; apply Exists.intro; refine ⟨fun w' hw' => ?_, ?_⟩; (focus (go_simp; (first | done | rfl | ((try go_ints); (try simp only [↓IntWalk.iteOmega, true_and]); (try go_simp); (first | done | rfl))))); go_simp; (with_reducible apply hK); clear hK K))
      ((with_reducible refine wpQuiet_step (fun K hK => ?_)); refine quiet_loadN (fun w' hw' => kb_range b 8 (by decide) (H5.out.1.rw hw')) Tryd.underlying39 rfl (by kernel_rfl) (by first | rfl | simp [Region.wanted, yielded]) rfl (by go_simp) ?_; go_simp; (with_reducible apply hK); clear hK K)
      ((with_reducible refine wpQuiet_step (fun K hK => ?_)); refine quiet_callE (by first | rfl | simp [Region.wanted, yielded]) ?_; apply Exists.intro; apply Exists.intro; refine ⟨fun w' => ?_, ?_⟩; (focus (go_simp; try (first | exact ⟨rfl, rfl⟩ | rfl))); apply Exists.intro; refine ⟨fun w' hw' => quiet_below hw' (lg0_ok b x0 w'), ?_⟩; go_simp; (with_reducible apply hK); clear hK K)
      (repeat ((with_reducible refine wpQuiet_step (fun K hK => ?_)); refine quiet_autoE (by first | rfl | simp [Region.wanted, yielded]) ?_; apply Exists.intro; refine ⟨fun w' hw' => ?_, ?_⟩; (focus (go_simp; (first | done | rfl | ((try go_ints); (try simp only [↓IntWalk.iteOmega, true_and]); (try go_simp); (first | done | rfl))))); go_simp; (with_reducible apply hK); clear hK K))
      refine wpQuiet_nil ?_
      intro w6 hw6
      rw [← h2.out]
      have H6 : Hid (Blk (w6.drewN 1) w.heap.size 41 (kb b) ∧ Blk (w6.drewN 1) c2 101 (iv .u64 W) ∧ Blk (w6.drewN 1) c3 67 (iv .u64 [x0, x1, x2, x3, x4, x5, x6, x7]) ∧ Below w.heap.size w (w6.drewN 1)) := Lib.hid ⟨(H5.out.1.rw hw6).drew 1, (H5.out.2.1.rw hw6).drew 1, (H5.out.2.2.1.rw hw6).drew 1, below_drewN (Rw.out H5.out.2.2.2 hw6) 1⟩
      generalize twoI b [x0, x1, x2, x3, x4, x5, x6, x7] = tw at *
      clear q0 q1 q2 h2 H5 hw6
      go_upto_region 8 with fail
      (refine wp_region_quiet_tail (C := fun w' => Rw (w6.drewN 1) w') 2 (by kernel_rfl) (by kernel_rfl) (Rw.refl _) ?_; simp only [List.take_succ_cons, List.take_zero, List.drop_succ_cons, List.drop_zero])
      (repeat ((with_reducible refine wpQuiet_step (fun K hK => ?_)); refine quiet_autoE (by first | rfl | simp [Region.wanted, yielded]) ?_; apply Exists.intro; refine ⟨fun w' hw' => ?_, ?_⟩; (focus (go_simp; (first | done | rfl | ((try go_ints); (try simp only [↓IntWalk.iteOmega, true_and]); (try go_simp); (first | done | rfl))))); go_simp; (with_reducible apply hK); clear hK K))
      refine wpQuiet_nil ?_
      intro w7 hw7
      have G7 := H6.out.2.2.1.rw hw7
      refine wpList_copy_own rfl (.tmp 79) (.tmp 80) 104 104 rfl 27 Tryd.underlying104 (by kernel_rfl) c3 1 7 7 ⟨c3, 0, none⟩ 7 8 rfl rfl (iv .u64 [x0, x1, x2, x3, x4, x5, x6, x7]).toArray 67 G7 (iv .u64 [x0, x1, x2, x3, x4, x5, x6]) rfl (fun j v hv => ?src) (by show 1 + 7 ≤ 8; decide) (iv_one _ _) ?_
      case src =>
        rw [Addr.add_lit, Nat.zero_add]
        refine G7.cell j v ?_
        match j, hv with
        | 0, hv | 1, hv | 2, hv | 3, hv | 4, hv | 5, hv | 6, hv => exact hv
      refine list_gen (fun wx => Blk wx w.heap.size 41 (kb b) ∧ Blk wx c2 101 (iv .u64 W) ∧ Blk wx c3 67 (iv .u64 [x0, x0, x1, x2, x3, x4, x5, x6]) ∧ Below w.heap.size w wx) ⟨(H6.out.1.rw hw7).farRow (by omega) _, (H6.out.2.1.rw hw7).farRow (by omega) _, G7.setRow (iv .u64 [x0, x0, x1, x2, x3, x4, x5, x6]), below_row (Rw.out H6.out.2.2.2 hw7) _ _ (by omega)⟩ ?_
      intro w8 Z8
      have H8 := Lib.hid Z8
      clear G7 hw7 H6 Z8
      have c8 : w8.cell? ⟨c3, 4, none⟩ = some (.int .u64 x3) := H8.out.2.2.1.icell 4 (by show 4 < 8; decide)
      go_upto_region 10 with (first | refine load_blk H8.out.1 Tryd.underlying41 rfl kind_size LK.out rfl rfl rfl ?_ | (go_at_call 54; refine (cut_ok' b _ _).mono ?_; rintro e w9 ⟨rfl, hb9⟩; have O9 := H8.out.2.2.1.rw hb9; have c9 := O9.cell 4 _ rfl; have f9 := O9.free 4))
      refine wp_gen (fun wx => Blk wx w.heap.size 41 (kb b) ∧ Blk wx c2 101 (iv .u64 W) ∧ Blk wx c3 67 (iv .u64 [x0, x0, x1, x2, cutI b (IntKind.u64.wrap (x3 + on)), x4, x5, x6]) ∧ Below w.heap.size w wx) ⟨(H8.out.1.rw hb9).far (by omega) _ _, (H8.out.2.1.rw hb9).far (by omega) _ _, O9.iset 4 _, below_set' (Rw.out H8.out.2.2.2 hb9) _ _ _ (by omega)⟩ ?_
      intro w10 Z10
      have H10 := Lib.hid Z10
      clear O9 c9 f9 hb9 c8 H8 Z10
      go_upto_region 11 with (first | refine load_blk H10.out.1 Tryd.underlying41 rfl kind_size LK.out rfl rfl rfl ?_ | (go_at_call 54; refine (cut_ok' b _ _).mono ?_; rintro e w11 ⟨rfl, hb11⟩; have O11 := H10.out.2.2.1.rw hb11; have c11 := O11.cell 0 _ rfl; have f11 := O11.free 0))
      have HS : Hid (Blk (w11.setCell ⟨c3, 0, none⟩ (.int .u64 (cutI b (IntKind.u64.wrap (on + tw))))) w.heap.size 41 (kb b) ∧ Blk (w11.setCell ⟨c3, 0, none⟩ (.int .u64 (cutI b (IntKind.u64.wrap (on + tw))))) c2 101 (iv .u64 W) ∧ Blk (w11.setCell ⟨c3, 0, none⟩ (.int .u64 (cutI b (IntKind.u64.wrap (on + tw))))) c3 67 (iv .u64 (rndL b T W h (t + 1))) ∧ Below w.heap.size w (w11.setCell ⟨c3, 0, none⟩ (.int .u64 (cutI b (IntKind.u64.wrap (on + tw)))))) := Lib.hid ⟨(H10.out.1.rw hb11).far (by omega) _ _, (H10.out.2.1.rw hb11).far (by omega) _ _, by rw [hst.out, hst2.out]; exact O11.iset 0 _, below_set' (Rw.out H10.out.2.2.2 hb11) _ _ _ (by omega)⟩
      clear O11 c11 f11 hb11 H10 hst hst2
      go_wp2_with fail
      go_roundw
      case rel => exact ⟨t + 1, by go_num, by omega, HS⟩
      case measure => simp [intOf]; omega
    · have htR : t = R := by omega
      rw [htR] at hr
      clear htR
      rw [← HX.out] at hr
      have HB0 : Hid (Blk wr hb 67 (iv .u64 h)) := HK.out.2.2.1.below hr.out.2.2.2 hbl
      have H0 : Hid (Blk wr w.heap.size 41 (kb b) ∧ Blk wr c3 67 (iv .u64 X) ∧ Blk wr hb 67 (iv .u64 (finL b h X 0)) ∧ Keeps (fun k => k = hb) w wr) := Lib.hid ⟨hr.out.1, hr.out.2.2.1, HB0.out, Keeps.of_below hr.out.2.2.2⟩
      clear hr HB0
      go_wp2_with fail
      rw [show decide (t < R) = false from decide_eq_false (by omega)]
      go_loopw [96] (fun v wr => ∃ i : Nat, v = .int .i64 i ∧ i ≤ 8 ∧ Hid (Blk wr w.heap.size 41 (kb b) ∧ Blk wr c3 67 (iv .u64 X) ∧ Blk wr hb 67 (iv .u64 (finL b h X i)) ∧ Keeps (fun k => k = hb) w wr)) (fun v _ => 8 - (intOf v).toNat)
      case atStart => exact ⟨0, rfl, by omega, H0.out⟩
      case round =>
        obtain ⟨i, rfl, hi, hq⟩ := hrel
        clear H0
        rcases Nat.lt_or_ge i 8 with h8 | h8
        · have hfl : (finL b h X i).length = 8 := (fin_len b h X i).trans hl
          have C1 := hq.out.1.drew 1
          have C2 := hq.out.2.1.drew 1
          have C3 := hq.out.2.2.1.drew 1
          have qx : ∀ w', Rw (wr.drewN 1) w' → w'.cell? ⟨c3, i, none⟩ = some (.int .u64 (X.getD i 0)) := fun w' h => (C2.rw h).icell i (by omega)
          have qh : ∀ w', Rw (wr.drewN 1) w' → w'.cell? ⟨hb, i, none⟩ = some (.int .u64 ((finL b h X i).getD i 0)) := fun w' h => (C3.rw h).icell i (by omega)
          have HC := Lib.hid (And.intro C1 (And.intro C2 (And.intro C3 (hq.out.2.2.2.drewN 1))))
          have hfn : Hid (finL b h X (i + 1) = (finL b h X i).set i (cutI b (IntKind.u64.wrap ((finL b h X i).getD i 0 + X.getD i 0)))) := rfl
          generalize X.getD i 0 = xi at *
          generalize hhi : (finL b h X i).getD i 0 = yi at *
          clear C1 C2 C3 hq hhi
          go_upto_region 15 with fail
          (refine wp_region_quiet_tail (C := fun w' => Rw (wr.drewN 1) w') 15 (by kernel_rfl) (by kernel_rfl) (Rw.refl _) ?_; simp only [List.take_succ_cons, List.take_zero, List.drop_succ_cons, List.drop_zero])
          (iterate 2 ((with_reducible refine wpQuiet_step (fun K hK => ?_)); refine quiet_autoE (by first | rfl | simp [Region.wanted, yielded]) ?_; apply Exists.intro; refine ⟨fun w' hw' => ?_, ?_⟩; (focus (go_simp; (first | done | rfl | ((try go_ints); (try simp only [↓IntWalk.iteOmega, true_and]); (try go_simp); (first | done | rfl))))); go_simp; (with_reducible apply hK); clear hK K))
          ((with_reducible refine wpQuiet_step (fun K hK => ?_)); refine quiet_loadB (n := 14) (fun w' hw' => HC.out.1.rw hw') Tryd.underlying41 rfl (by kernel_rfl) (LK.out) (by first | rfl | simp [Region.wanted, yielded]) rfl (by go_simp) ?_; go_simp; (with_reducible apply hK); clear hK K)
          (iterate 9 ((with_reducible refine wpQuiet_step (fun K hK => ?_)); refine quiet_autoE (by first | rfl | simp [Region.wanted, yielded]) ?_; apply Exists.intro; refine ⟨fun w' hw' => ?_, ?_⟩; (focus (go_simp; (first | done | rfl | ((try go_ints); (try simp only [↓IntWalk.iteOmega, true_and]); (try go_simp); (first | done | rfl))))); go_simp; (with_reducible apply hK); clear hK K))
          ((with_reducible refine wpQuiet_step (fun K hK => ?_)); refine quiet_callE (by first | rfl | simp [Region.wanted, yielded]) ?_; apply Exists.intro; apply Exists.intro; refine ⟨fun w' => ?_, ?_⟩; (focus (go_simp; try (first | exact ⟨rfl, rfl⟩ | rfl))); apply Exists.intro; refine ⟨fun w' hw' => quiet_below hw' (cut_ok' b _ w'), ?_⟩; go_simp; (with_reducible apply hK); clear hK K)
          (repeat ((with_reducible refine wpQuiet_step (fun K hK => ?_)); refine quiet_autoE (by first | rfl | simp [Region.wanted, yielded]) ?_; apply Exists.intro; refine ⟨fun w' hw' => ?_, ?_⟩; (focus (go_simp; (first | done | rfl | ((try go_ints); (try simp only [↓IntWalk.iteOmega, true_and]); (try go_simp); (first | done | rfl))))); go_simp; (with_reducible apply hK); clear hK K))
          refine wpQuiet_nil ?_
          intro w5 hw5
          have O3 := HC.out.2.2.1.rw hw5
          have ch := O3.icell i (by omega)
          have fh := O3.free i
          have S3 := O3.iset i (cutI b (IntKind.u64.wrap (yi + xi)))
          rw [← hfn.out] at S3
          have KW : Keeps (fun k => k = hb) w w5 := HC.out.2.2.2.trans (Keeps.of_below (F := fun _ => False) hw5) (fun _ _ f => f.elim)
          have HS := Lib.hid (And.intro ((HC.out.1.rw hw5).far (show w.heap.size ≠ hb by omega) i (.int .u64 (cutI b (IntKind.u64.wrap (yi + xi))))) (And.intro ((HC.out.2.1.rw hw5).far (show c3 ≠ hb by omega) i (.int .u64 (cutI b (IntKind.u64.wrap (yi + xi))))) (And.intro S3 (KW.set hb i (.int .u64 (cutI b (IntKind.u64.wrap (yi + xi)))) (fun _ => rfl)))))
          clear O3 S3 KW hw5 HC hfn qx qh
          go_wp2_with fail
          go_roundw
          case rel => exact ⟨i + 1, by go_num, by omega, HS.out⟩
          case measure => simp [intOf]; omega
        · have hi8 : i = 8 := by omega
          rw [hi8] at hq
          clear hi8
          go_wp2_with fail
          go_end0
          exact ⟨rfl, hq.out.2.2.1, hq.out.2.2.2⟩
end Go.Proofs.YtilccncddbgpbaaDoor
