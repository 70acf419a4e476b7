/-
poly: Sum.
-/
import Derived.Test.YtcbkbjpdfanjpaaGreatDoorPk10
import Derived.Test.YtcbkbjpdfanjpaaGreatDoorPk13
namespace Go.Proofs.YtcbkbjpdfanjpaaGreatDoor
open Go.RowKit Pol
set_option maxRecDepth 100000
theorem Blk.str8 {w : World} {b : Nat} {t : TypeId} {l : List UInt8} (h : Blk w b t (byv l)) (n : Nat) (hn : n = l.length) : (convert 68 9 (.slice (some ⟨b, 0, none⟩) n n)).run Tryz.prog w = .ok (.string (by8 l)) w := by
  subst hn
  refine run_convert_bytes_back w 68 9 5 ⟨b, 0, none⟩ l.length l Tryz.underlying68 Tryz.underlying5 Tryz.underlying9 (fun j hj => ?_)
  rw [Addr.add_lit, Nat.zero_add, h.cell j _ (byv_get l j hj)]
  simp [hj]
namespace Pol
def addL (top : Nat) (A : List Nat) (lo hi : Nat) : List Nat := [ad0 (A.getD 0 0) lo, ad1 (A.getD 0 0) (A.getD 1 0) lo hi, ad2 (A.getD 0 0) (A.getD 1 0) (A.getD 2 0) lo hi top]
def mulA (r0 r1 : Nat) (A : List Nat) : List Nat := muL (A.getD 0 0) (A.getD 1 0) (A.getD 2 0) r0 r1
def lsA (A : List Nat) : List Nat := lsL (A.getD 0 0) (A.getD 1 0) (A.getD 2 0)
/-- three words -/
def Tri (A : List Nat) : Prop := ∃ a0 a1 a2, A = [a0, a1, a2] ∧ a0 < W ∧ a1 < W ∧ a2 < W
theorem addL_tri (top : Nat) (A : List Nat) (lo hi : Nat) : Tri (addL top A lo hi) := ⟨_, _, _, rfl, ad0_lt _ _, ad1_lt _ _ _ _, ad2_lt _ _ _ _ _ _⟩
theorem mulA_tri (r0 r1 : Nat) (A : List Nat) : Tri (mulA r0 r1 A) := muL_eq _ _ _ _ _
theorem lsA_tri {A : List Nat} (h : Tri A) : Tri (lsA A) := by
  obtain ⟨a0, a1, a2, rfl, h0, h1, h2⟩ := h
  exact lsL_eq a0 a1 a2 h0 h1 h2
def absN (r0 r1 : Nat) (l : List UInt8) : Nat → List Nat
  | 0 => [0, 0, 0]
  | i + 1 => mulA r0 r1 (addL 1 (absN r0 r1 l i) (numL ((l.drop (16 * i)).take 8)) (numL (((l.drop (16 * i)).drop 8).take 8)))
def key0 (K : List UInt8) : Nat := bN .and (numL (K.take 8) : Nat) 1152921487695413247
def key1 (K : List UInt8) : Nat := bN .and (numL ((K.drop 8).take 8) : Nat) 1152921487695413244
def restL (m : List UInt8) : List UInt8 := m ++ [1] ++ List.replicate (15 - m.length) 0
def finL (r0 r1 : Nat) (A : List Nat) (m : List UInt8) : List Nat := if m.length = 0 then A else mulA r0 r1 (addL 0 A (numL ((restL m).take 8)) (numL ((restL m).drop 8)))
def endA (K l : List UInt8) : List Nat := addL 0 (lsA (finL (key0 K) (key1 K) (absN (key0 K) (key1 K) l (l.length / 16)) (l.drop (16 * (l.length / 16))))) (numL ((K.drop 16).take 8)) (numL (K.drop 24))
def outF (E : List Nat) (j : Nat) : UInt8 := lo8 (((E[j / 8]?.getD 0 : Nat) : Int) / 2 ^ (8 * (j % 8)))
def sumP (K l : List UInt8) : List UInt8 := upto8 (outF (endA K l)) (fun _ => 0) 16 16
theorem sumP_len (K l : List UInt8) : (sumP K l).length = 16 := upto8_len _ _ _ _
end Pol
/-- what Sum holds -/
def PS (w wx : World) (hb : Nat) (A : List Nat) (r0 r1 : Nat) : Prop :=
  Tri A ∧ Blk wx hb 161 (uv (A ++ [r0, r1])) ∧ Blk wx (w.heap.size + 1) 136 (byv (List.replicate 16 0)) ∧ Below w.heap.size w wx ∧ w.heap.size + 1 < hb
theorem PS.rw {w wx wy : World} {hb : Nat} {A : List Nat} {r0 r1 : Nat} (h : PS w wx hb A r0 r1) (hr : Rw wx wy) : PS w wy hb A r0 r1 := ⟨h.1, h.2.1.rw hr, h.2.2.1.rw hr, Rw.out h.2.2.2.1 hr, h.2.2.2.2⟩
theorem arr16_size : (Tryz.prog.info? 136).map (·.size) = some 16 := by kernel_rfl
theorem blk_range {w : World} {b : Nat} {t : TypeId} {cs : List Value} (h : Blk w b t cs) : w.rangeAt b 0 cs := fun j v hv => by rw [Nat.zero_add]; exact h.cell j v hv
theorem PS.cellAt {w wx : World} {hb : Nat} {A : List Nat} {r0 r1 : Nat} (h : PS w wx hb A r0 r1) (i : Nat) (hi : i < 3) : wx.cell? ⟨hb, i, none⟩ = some (.int .u64 (A.getD i 0 : Nat)) := by
  obtain ⟨a0, a1, a2, rfl, _⟩ := h.1
  obtain rfl | rfl | rfl : i = 0 ∨ i = 1 ∨ i = 2 := by omega
  · exact h.2.1.cell 0 _ rfl
  · exact h.2.1.cell 1 _ rfl
  · exact h.2.1.cell 2 _ rfl
theorem PS.to {w wx wy : World} {hb : Nat} {A B : List Nat} {r0 r1 : Nat} (h : PS w wx hb A r0 r1) (hk : Keeps (fun k => k = hb) wx wy) (hB : Tri B) (hb' : Blk wy hb 161 (uv (B ++ [r0, r1]))) : PS w wy hb B r0 r1 := by
  have h4 := h.2.2.2.2
  exact ⟨hB, hb', hk.blk h.2.2.1 (by omega), h.2.2.2.1.trans (hk.below h.2.2.2.1.size (fun k hk => by omega)), h4⟩
theorem PS.add {w wx : World} {hb : Nat} {A : List Nat} {r0 r1 : Nat} (h : PS w wx hb A r0 r1) (lo hi top : Nat) (hlo : lo < W) (hhi : hi < W) :
    Calls Tryz.prog 107 #[.pointer (some ⟨hb, 0, none⟩), .int .u64 lo, .int .u64 hi, .int .u64 top] wx fun e w' => e = .returned (.tuple #[]) ∧ PS w w' hb (addL top A lo hi) r0 r1 := by
  obtain ⟨a0, a1, a2, rfl, h0, h1, h2⟩ := h.1
  exact (padd_ok hb a0 a1 a2 r0 r1 lo hi top h0 h1 hlo hhi wx h.2.1).mono fun e w' ⟨he, hb', hk⟩ => ⟨he, h.to hk (addL_tri _ _ _ _) hb'⟩
theorem PS.mul {w wx : World} {hb : Nat} {A : List Nat} {r0 r1 : Nat} (h : PS w wx hb A r0 r1) (hr0 : r0 < W) (hr1 : r1 < W) :
    Calls Tryz.prog 108 #[.pointer (some ⟨hb, 0, none⟩)] wx fun e w' => e = .returned (.tuple #[]) ∧ PS w w' hb (mulA r0 r1 A) r0 r1 := by
  obtain ⟨a0, a1, a2, rfl, h0, h1, h2⟩ := h.1
  exact (pmul_ok hb a0 a1 a2 r0 r1 h0 h1 h2 hr0 hr1 wx h.2.1).mono fun e w' ⟨he, hb', hk⟩ => ⟨he, h.to hk (mulA_tri _ _ _) hb'⟩
theorem PS.less {w wx : World} {hb : Nat} {A : List Nat} {r0 r1 : Nat} (h : PS w wx hb A r0 r1) :
    Calls Tryz.prog 109 #[.pointer (some ⟨hb, 0, none⟩)] wx fun e w' => e = .returned (.tuple #[]) ∧ PS w w' hb (lsA A) r0 r1 := by
  have ht := lsA_tri h.1
  obtain ⟨a0, a1, a2, rfl, h0, h1, h2⟩ := h.1
  exact (pless_ok hb a0 a1 a2 r0 r1 wx h.2.1).mono fun e w' ⟨he, hb', hk⟩ => ⟨he, h.to hk ht hb'⟩
set_option maxHeartbeats 8000000 in
theorem psum_ok (K l : List UInt8) (hK : K.length = 32) (hl : l.length ≤ 1000000) (w : World) : Calls Tryz.prog 91 #[.agg (byv K).toArray, .string (by8 l)] w fun e w' => e = .returned (.agg (byv (sumP K l)).toArray) ∧ Rw w w' := by
  unfold sumP endA
  have LK : Hid ((byv K).length = 32) := Lib.hid (by rw [byv_len]; exact hK)
  have hkS : (by8 K).size = 32 := by rw [by8_size, hK]
  have kx0 : (by8 K).extract 0 8 = by8 (K.take 8) := by8_take _ _
  have kx1 : (by8 K).extract 8 16 = by8 ((K.drop 8).take 8) := by8_mid _ _ _
  have kx2 : (by8 K).extract 16 24 = by8 ((K.drop 16).take 8) := by8_mid _ _ _
  have kx3 : (by8 K).extract 24 32 = by8 (K.drop 24) := by8_drop _ _ _ hK.symm
  have N0 := num_ok (K.take 8) (by simp; omega)
  have N1 := num_ok ((K.drop 8).take 8) (by simp; omega)
  have N2 := num_ok ((K.drop 16).take 8) (by simp; omega)
  have N3 := num_ok (K.drop 24) (by simp; omega)
  have L0 := numL_lt ((K.drop 16).take 8)
  have L1 := numL_lt (K.drop 24)
  have k0 : bits .and .u64 ((numL (K.take 8) : Nat) : Int) 1152921487695413247 = (key0 K : Nat) := (bN_and _ _).1
  have k1 : bits .and .u64 ((numL ((K.drop 8).take 8) : Nat) : Int) 1152921487695413244 = (key1 K : Nat) := (bN_and _ _).1
  have R0 : key0 K < W := (bN_and _ _).2
  have R1 : key1 K < W := (bN_and _ _).2
  generalize key0 K = r0 at *
  generalize key1 K = r1 at *
  generalize numL (K.take 8) = x0 at *
  generalize numL ((K.drop 8).take 8) = x1 at *
  generalize numL ((K.drop 16).take 8) = x2 at *
  generalize numL (K.drop 24) = x3 at *
  generalize K.take 8 = y0 at *
  generalize (K.drop 8).take 8 = y1 at *
  generalize (K.drop 16).take 8 = y2 at *
  generalize K.drop 24 = y3 at *
  obtain ⟨R, hR⟩ : ∃ R, R = upto8 (outF (addL 0 (lsA (finL r0 r1 (absN r0 r1 l (l.length / 16)) (l.drop (16 * (l.length / 16))))) x2 x3)) (fun _ => 0) 16 16 := ⟨_, rfl⟩
  rw [← hR]
  replace hR := Lib.hid hR
  have HK := Lib.hid (And.intro R0 (And.intro R1 (And.intro L0 (And.intro L1 (And.intro N0 (And.intro N1 (And.intro N2 N3)))))))
  clear R0 R1 L0 L1 N0 N1 N2 N3
  obtain ⟨n, hn⟩ : ∃ n, n = l.length := ⟨_, rfl⟩
  rw [← hn] at hl
  have HN := Lib.hid (And.intro hn hK)
  clear hn hK
  go_enter Tryz.func91, Tryz.ntmps91
  go_upto_region 1 with fail
  refine wp_gen (fun wx => Blk wx w.heap.size 23 (byv K) ∧ Blk wx (w.heap.size + 1) 136 (byv (List.replicate 16 0)) ∧ Below w.heap.size w wx) ⟨(Blk.new w _ (byv K)).alloc _, Blk.new2 _ _ _ (byv (List.replicate 16 0)), below2 _ _ _⟩ ?_
  rintro w1 ⟨B1, B2, BW⟩
  have hcv := B1.str8 32 HN.out.2.symm
  have H1 := Lib.hid (And.intro B1 (And.intro B2 BW))
  clear B1 B2 BW
  go_upto_region 2 with fail
  (refine wp_region_quiet_tail (C := fun w' => Rw (w1.drewN 1) w') 10 (by kernel_rfl) (by kernel_rfl) (Rw.refl _) ?_; simp only [List.take_succ_cons, List.take_zero, List.drop_succ_cons, List.drop_zero])
  (iterate 2 ((with_reducible refine wpQuiet_step (fun K hK => ?_)); refine quiet_autoE (by first | rfl | simp [Region.wanted, yielded]) ?_; apply Exists.intro; refine ⟨fun w' hw' => ?_, ?_⟩; (focus (go_simp; (first | done | rfl | ((try go_ints); (try simp only [↓IntWalk.iteOmega, true_and]); (try go_simp); (first | done | rfl))))); go_simp; (with_reducible apply hK); clear hK K))
  ((with_reducible refine wpQuiet_step (fun K hK => ?_)); refine quiet_callE (by first | rfl | simp [Region.wanted, yielded]) ?_; apply Exists.intro; apply Exists.intro; refine ⟨fun w' => ?_, ?_⟩; (focus (go_simp; try (first | exact ⟨rfl, rfl⟩ | rfl))); apply Exists.intro; refine ⟨fun w' hw' => quiet_same hw' (HK.out.2.2.2.2.1 w'), ?_⟩; go_simp; (with_reducible apply hK); clear hK K)
  (iterate 3 ((with_reducible refine wpQuiet_step (fun K hK => ?_)); refine quiet_autoE (by first | rfl | simp [Region.wanted, yielded]) ?_; apply Exists.intro; refine ⟨fun w' hw' => ?_, ?_⟩; (focus (go_simp; (first | done | rfl | ((try go_ints); (try simp only [↓IntWalk.iteOmega, true_and]); (try go_simp); (first | done | rfl))))); go_simp; (with_reducible apply hK); clear hK K))
  ((with_reducible refine wpQuiet_step (fun K hK => ?_)); refine quiet_callE (by first | rfl | simp [Region.wanted, yielded]) ?_; apply Exists.intro; apply Exists.intro; refine ⟨fun w' => ?_, ?_⟩; (focus (go_simp; try (first | exact ⟨rfl, rfl⟩ | rfl))); apply Exists.intro; refine ⟨fun w' hw' => quiet_same hw' (HK.out.2.2.2.2.2.1 w'), ?_⟩; go_simp; (with_reducible apply hK); clear hK K)
  (repeat ((with_reducible refine wpQuiet_step (fun K hK => ?_)); refine quiet_autoE (by first | rfl | simp [Region.wanted, yielded]) ?_; apply Exists.intro; refine ⟨fun w' hw' => ?_, ?_⟩; (focus (go_simp; (first | done | rfl | ((try go_ints); (try simp only [↓IntWalk.iteOmega, true_and]); (try go_simp); (first | done | rfl))))); go_simp; (with_reducible apply hK); clear hK K))
  refine wpQuiet_nil ?_
  intro w2 h2
  go_upto_region 3 with fail
  have H3 : Hid (PS w (w2.alloc (.cells (uv [0, 0, 0, r0, r1]).toArray 161)) w2.heap.size (absN r0 r1 l 0) r0 r1) := Lib.hid (by
    have R2 : Rw w1 w2 := Rw.trans (below_drewN (Below.refl _ _) 1) h2
    have b2 := H1.out.2.1.rw R2
    exact ⟨⟨0, 0, 0, rfl, by decide, by decide, by decide⟩, Blk.new w2 _ _, b2.rw (below1 _ _), Rw.out (Rw.out H1.out.2.2 R2) (below1 _ _), b2.lt⟩)
  have hd0 : Hid (by8 l = by8 (l.drop (16 * 0))) := Lib.hid rfl
  rw [hd0.out]
  clear hd0 h2 hcv H1
  change Code.wp _ _ _ _ (w2.alloc (.cells (uv [0, 0, 0, r0, r1]).toArray 161))
  generalize w2.alloc (.cells (uv [0, 0, 0, r0, r1]).toArray 161) = w3 at *
  generalize w2.heap.size = hb at *
  go_loopw [1] (fun v1 wx => ∃ i : Nat, v1 = .string (by8 (l.drop (16 * i))) ∧ 16 * i ≤ n ∧ Hid (PS w wx hb (absN r0 r1 l i) r0 r1)) (fun v _ => sLen8 v)
  case atStart => exact ⟨0, rfl, by omega, H3⟩
  case round =>
    obtain ⟨i, rfl, hi, hr⟩ := hrel
    clear H3
    obtain ⟨m, hm⟩ : ∃ m, m = l.drop (16 * i) := ⟨_, rfl⟩
    obtain ⟨q, hq⟩ : ∃ q, q = m.length := ⟨_, rfl⟩
    have hqn : q = n - 16 * i := by rw [hq, hm, List.length_drop, ← HN.out.1]
    rw [← hm]
    have hmS : (by8 m).size = q := by rw [by8_size, hq]
    rcases Nat.lt_or_ge q 16 with h16 | h16
    · have hlt : ((16 : Int) ≤ (q : Int)) = False := eq_false (by omega)
      have hi16 : i = n / 16 := by omega
      have HM := Lib.hid (And.intro hm (And.intro hq hi16))
      clear hqn hm hq hi16
      go_upto_if 39 with fail
      go_cut [7] (fun v7 wx => Hid (PS w wx hb (finL r0 r1 (absN r0 r1 l i) m) r0 r1))
      case first =>
        have hem := by8_empty m
        rw [← HM.out.2.1] at hem
        rcases Nat.eq_zero_or_pos q with h0 | h0
        · rw [show decide (q = 0) = true from decide_eq_true h0] at hem
          have HF : Hid (finL r0 r1 (absN r0 r1 l i) m = absN r0 r1 l i) := Lib.hid (by unfold finL; rw [if_pos (by rw [← HM.out.2.1]; exact h0)])
          clear h0
          rw [hem]
          go_wp2_with fail
          go_meet
          rw [HF.out]
          exact hr
        · rw [show decide (q = 0) = false from decide_eq_false (by omega)] at hem
          obtain ⟨rp, hrp⟩ : ∃ rp, rp = 15 - q := ⟨_, rfl⟩
          have e4 : (15 : Int) - (q : Int) = (rp : Nat) := by omega
          have hrs : Hid ((⟨(Lib.repeatL (ByteArray.data ⟨#[0]⟩).toList rp).toArray⟩ : ByteArray) = by8 (List.replicate rp 0)) := by
            refine Lib.hid ?_
            show (⟨(Lib.repeatL [0] rp).toArray⟩ : ByteArray) = _
            have := Lib.repeatL_replicate 0 1 rp
            rw [Nat.mul_one] at this
            rw [show ([0] : List UInt8) = List.replicate 1 0 from rfl, this]
            rfl
          have HREP := Lib.hid (fun w => sh_repeat ⟨#[0]⟩ rp w (by omega) (by show 1 * rp ≤ _; omega))
          obtain ⟨RL, hRL⟩ : ∃ RL, RL = restL m := ⟨_, rfl⟩
          have happ : by8 m ++ { data := #[1] } ++ by8 (List.replicate rp 0) = by8 RL := by
            rw [hRL, show ({ data := #[1] } : ByteArray) = by8 [1] from rfl, by8_app, by8_app, hrp, HM.out.2.1]; rfl
          have hRl : RL.length = 16 := by
            have := HM.out.2.1
            rw [hRL]; unfold restL
            simp only [List.length_append, List.length_replicate, List.length_cons, List.length_nil]; omega
          have hRS : (by8 RL).size = 16 := by rw [by8_size, hRl]
          have rx0 : (by8 RL).extract 0 8 = by8 (RL.take 8) := by8_take _ _
          have rx1 : (by8 RL).extract 8 16 = by8 (RL.drop 8) := by8_drop _ _ _ hRl.symm
          have HS := Lib.hid (And.intro (num_ok (RL.take 8) (by simp; omega)) (And.intro (num_ok (RL.drop 8) (by simp; omega)) (And.intro (numL_lt (RL.take 8)) (numL_lt (RL.drop 8)))))
          have HF : Hid (finL r0 r1 (absN r0 r1 l i) m = mulA r0 r1 (addL 0 (absN r0 r1 l i) (numL (RL.take 8)) (numL (RL.drop 8)))) := Lib.hid (by unfold finL; rw [if_neg (by rw [← HM.out.2.1]; omega), hRL])
          have HP := Lib.hid (And.intro happ hRS)
          have hrpl : rp ≤ 15 := by omega
          have hsz2 := by8_size (List.replicate rp (0 : UInt8))
          rw [List.length_replicate] at hsz2
          clear hRL hRl hrp happ hRS
          generalize numL (RL.take 8) = z0 at *
          generalize numL (RL.drop 8) = z1 at *
          generalize RL.take 8 = m0 at *
          generalize RL.drop 8 = m1 at *
          clear hlt
          rw [hem]
          go_upto_region 9 with (go_at_call 29; refine (HREP.out _).mono ?_; rw [hrs.out]; rintro e w4 ⟨rfl, hb4⟩)
          rw [HP.out.1]
          have hRS := HP.out.2
          have H4 := Lib.hid (hr.out.rw hb4)
          clear hb4 hr
          (refine wp_region_quiet_tail (C := fun w' => Rw (w4.drewN 1) w') 7 (by kernel_rfl) (by kernel_rfl) (Rw.refl _) ?_; simp only [List.take_succ_cons, List.take_zero, List.drop_succ_cons, List.drop_zero])
          (iterate 3 ((with_reducible refine wpQuiet_step (fun K hK => ?_)); refine quiet_autoE (by first | rfl | simp [Region.wanted, yielded]) ?_; apply Exists.intro; refine ⟨fun w' hw' => ?_, ?_⟩; (focus (go_simp; (first | done | rfl | ((try go_ints); (try simp only [↓IntWalk.iteOmega, true_and]); (try go_simp); (first | done | rfl))))); go_simp; (with_reducible apply hK); clear hK K))
          ((with_reducible refine wpQuiet_step (fun K hK => ?_)); refine quiet_callE (by first | rfl | simp [Region.wanted, yielded]) ?_; apply Exists.intro; apply Exists.intro; refine ⟨fun w' => ?_, ?_⟩; (focus (go_simp; try (first | exact ⟨rfl, rfl⟩ | rfl))); apply Exists.intro; refine ⟨fun w' hw' => quiet_same hw' (HS.out.1 w'), ?_⟩; go_simp; (with_reducible apply hK); clear hK K)
          (iterate 2 ((with_reducible refine wpQuiet_step (fun K hK => ?_)); refine quiet_autoE (by first | rfl | simp [Region.wanted, yielded]) ?_; apply Exists.intro; refine ⟨fun w' hw' => ?_, ?_⟩; (focus (go_simp; (first | done | rfl | ((try go_ints); (try simp only [↓IntWalk.iteOmega, true_and]); (try go_simp); (first | done | rfl))))); go_simp; (with_reducible apply hK); clear hK K))
          ((with_reducible refine wpQuiet_step (fun K hK => ?_)); refine quiet_callE (by first | rfl | simp [Region.wanted, yielded]) ?_; apply Exists.intro; apply Exists.intro; refine ⟨fun w' => ?_, ?_⟩; (focus (go_simp; try (first | exact ⟨rfl, rfl⟩ | rfl))); apply Exists.intro; refine ⟨fun w' hw' => quiet_same hw' (HS.out.2.1 w'), ?_⟩; go_simp; (with_reducible apply hK); clear hK K)
          refine wpQuiet_nil ?_
          intro w5 h5
          have H5 := Lib.hid (H4.out.rw (Rw.trans (below_drewN (Below.refl _ _) 1) h5))
          clear h5
          go_upto_region 10 with (go_at_call 107; refine (H5.out.add z0 z1 0 HS.out.2.2.1 HS.out.2.2.2).mono ?_; rintro e w6 ⟨rfl, H6⟩; replace H6 := Lib.hid H6)
          go_wp2_with (go_at_call 108; refine (H6.out.mul HK.out.1 HK.out.2.1).mono ?_; rintro e w7 ⟨rfl, H7⟩; replace H7 := Lib.hid H7)
          go_meet
          rw [HF.out]
          exact H7
      case rest =>
        obtain ⟨A, hA⟩ : ∃ A, A = finL r0 r1 (absN r0 r1 l i) m := ⟨_, rfl⟩
        rw [← hA] at hcut
        go_upto_region 12 with (go_at_call 109; refine (hcut.out.less).mono ?_; rintro e w6 ⟨rfl, H6⟩; replace H6 := Lib.hid H6)
        (refine wp_region_quiet_tail (C := fun w' => Rw (w6.drewN 1) w') 7 (by kernel_rfl) (by kernel_rfl) (Rw.refl _) ?_; simp only [List.take_succ_cons, List.take_zero, List.drop_succ_cons, List.drop_zero])
        (iterate 3 ((with_reducible refine wpQuiet_step (fun K hK => ?_)); refine quiet_autoE (by first | rfl | simp [Region.wanted, yielded]) ?_; apply Exists.intro; refine ⟨fun w' hw' => ?_, ?_⟩; (focus (go_simp; (first | done | rfl | ((try go_ints); (try simp only [↓IntWalk.iteOmega, true_and]); (try go_simp); (first | done | rfl))))); go_simp; (with_reducible apply hK); clear hK K))
        ((with_reducible refine wpQuiet_step (fun K hK => ?_)); refine quiet_callE (by first | rfl | simp [Region.wanted, yielded]) ?_; apply Exists.intro; apply Exists.intro; refine ⟨fun w' => ?_, ?_⟩; (focus (go_simp; try (first | exact ⟨rfl, rfl⟩ | rfl))); apply Exists.intro; refine ⟨fun w' hw' => quiet_same hw' (HK.out.2.2.2.2.2.2.1 w'), ?_⟩; go_simp; (with_reducible apply hK); clear hK K)
        (iterate 2 ((with_reducible refine wpQuiet_step (fun K hK => ?_)); refine quiet_autoE (by first | rfl | simp [Region.wanted, yielded]) ?_; apply Exists.intro; refine ⟨fun w' hw' => ?_, ?_⟩; (focus (go_simp; (first | done | rfl | ((try go_ints); (try simp only [↓IntWalk.iteOmega, true_and]); (try go_simp); (first | done | rfl))))); go_simp; (with_reducible apply hK); clear hK K))
        ((with_reducible refine wpQuiet_step (fun K hK => ?_)); refine quiet_callE (by first | rfl | simp [Region.wanted, yielded]) ?_; apply Exists.intro; apply Exists.intro; refine ⟨fun w' => ?_, ?_⟩; (focus (go_simp; try (first | exact ⟨rfl, rfl⟩ | rfl))); apply Exists.intro; refine ⟨fun w' hw' => quiet_same hw' (HK.out.2.2.2.2.2.2.2 w'), ?_⟩; go_simp; (with_reducible apply hK); clear hK K)
        refine wpQuiet_nil ?_
        intro w7 h7
        have H7 := Lib.hid (H6.out.rw (Rw.trans (below_drewN (Below.refl _ _) 1) h7))
        clear h7 hcut H6
        go_upto_region 14 with (go_at_call 107; refine (H7.out.add x2 x3 0 HK.out.2.2.1 HK.out.2.2.2.1).mono ?_; rintro e w8 ⟨rfl, H8⟩; replace H8 := Lib.hid H8)
        obtain ⟨E, hE⟩ : ∃ E, E = addL 0 (lsA A) x2 x3 := ⟨_, rfl⟩
        rw [← hE] at H8
        obtain ⟨F, hF⟩ : ∃ F : Nat → UInt8, F = outF E := ⟨_, rfl⟩
        have H9 : Hid (PS w (w8.alloc (.cells (byv (upto8 F (fun _ => 0) 16 0)).toArray 136)) hb E r0 r1 ∧ Blk (w8.alloc (.cells (byv (upto8 F (fun _ => 0) 16 0)).toArray 136)) w8.heap.size 136 (byv (upto8 F (fun _ => 0) 16 0)) ∧ hb < w8.heap.size) := Lib.hid ⟨H8.out.rw (below1 _ _), Blk.new _ _ _, H8.out.2.1.lt⟩
        change Code.wp _ _ _ _ (w8.alloc (.cells (byv (upto8 F (fun _ => 0) 16 0)).toArray 136))
        generalize w8.alloc (.cells (byv (upto8 F (fun _ => 0) 16 0)).toArray 136) = w9 at *
        generalize w8.heap.size = ob at *
        clear H8 H7
        have HF := Lib.hid (And.intro hE (And.intro hF hA))
        clear hE hF hA
        go_wp2_with fail
        go_loopw [67] (fun v67 wx => ∃ j : Nat, v67 = .int .i64 j ∧ j ≤ 16 ∧ Hid (PS w wx hb E r0 r1 ∧ Blk wx ob 136 (byv (upto8 F (fun _ => 0) 16 j)) ∧ hb < ob)) (fun v _ => 16 - (intOf v).toNat)
        case atStart => exact ⟨0, rfl, by omega, H9⟩
        case round =>
          obtain ⟨j, rfl, hj, hs⟩ := hrel
          clear H9
          rcases Nat.lt_or_ge j 16 with h16 | h16
          · have c0 := hs.out.2.1.cell j _ (byv_get _ j (by rw [upto8_len]; exact h16))
            have f0 := hs.out.2.1.free j
            have c1 := hs.out.1.cellAt (j / 8) (by omega)
            have htd : (j : Int).tdiv 8 = ((j / 8 : Nat) : Int) := by rw [Int.tdiv_eq_ediv_of_nonneg (Int.natCast_nonneg _)]; rfl
            have hv : ((E[j / 8]?.getD 0 : Nat) : Int) / 2 ^ (8 * (j % 8)) % 256 = ((F j).toNat : Nat) := by rw [HF.out.2.1]; exact lo8_val' _
            go_upto_region 18 with fail
            rw [hv]
            have HN2 : Hid (PS w (wr.setCell ⟨ob, j, none⟩ (.int .u8 ((F j).toNat : Nat))) hb E r0 r1 ∧ Blk (wr.setCell ⟨ob, j, none⟩ (.int .u8 ((F j).toNat : Nat))) ob 136 (byv (upto8 F (fun _ => 0) 16 (j + 1))) ∧ hb < ob) := Lib.hid (by
              obtain ⟨h1, h2, h3⟩ := hs.out
              have h4 := h1.2.2.2.2
              refine ⟨⟨h1.1, h1.2.1.far (by omega) _ _, h1.2.2.1.far (by omega) _ _, below_set' h1.2.2.2.1 _ _ _ (by omega), h4⟩, ?_, h3⟩
              have := h2.set j (.int .u8 ((F j).toNat : Nat))
              rw [byv_set, upto8_set] at this
              exact this)
            clear hv c0 f0 c1 htd hs
            go_wp2_with fail
            go_roundw
            case rel => exact ⟨j + 1, val_int (by omega), by omega, HN2⟩
            case measure => simp [intOf]; omega
          · obtain rfl : j = 16 := by omega
            have LF : Hid ((byv (upto8 F (fun _ => 0) 16 16)).length = 16) := Lib.hid (by rw [byv_len, upto8_len])
            have LZ : Hid ((byv (List.replicate 16 0)).length = 16) := Lib.hid rfl
            go_wp2_with (first
              | refine wpList_load_mid rfl 136 _ rfl ob 0 rfl (byv (upto8 F (fun _ => 0) 16 16)) _ (blk_range hs.out.2.1) Tryz.underlying136 rfl (by rw [LF.out]; exact arr16_size) ?_
              | refine store_blk hs.out.1.2.2.1 arr16_size LF.out LZ.out (byv_one _) rfl rfl rfl rfl ?_)
            have e : upto8 F (fun _ => 0) 16 16 = R := by rw [hR.out, HF.out.2.1, HF.out.1, HF.out.2.2, HM.out.1, HM.out.2.2, HN.out.1]
            refine ret_blk rfl (hs.out.1.2.2.1.setRow _) Tryz.underlying136 rfl arr16_size LF.out rfl rfl ⟨by rw [e], below_row hs.out.1.2.2.2.1 _ _ (by omega)⟩
    · have hge : ((16 : Int) ≤ (q : Int)) = True := eq_true (by omega)
      have mx0 : (by8 m).extract 0 8 = by8 (m.take 8) := by8_take _ _
      have mx1 : (by8 m).extract 8 16 = by8 ((m.drop 8).take 8) := by8_mid _ _ _
      have mx2 : (by8 m).extract 16 q = by8 (l.drop (16 * (i + 1))) := by rw [by8_drop _ _ _ hq, hm, List.drop_drop]; congr 2
      have HS := Lib.hid (And.intro (num_ok (m.take 8) (by simp; omega)) (And.intro (num_ok ((m.drop 8).take 8) (by simp; omega)) (And.intro (numL_lt (m.take 8)) (numL_lt ((m.drop 8).take 8)))))
      have HE : Hid (absN r0 r1 l (i + 1) = mulA r0 r1 (addL 1 (absN r0 r1 l i) (numL (m.take 8)) (numL ((m.drop 8).take 8)))) := Lib.hid (by rw [hm]; rfl)
      have hni : 16 * (i + 1) ≤ n := by omega
      have hqb : q ≤ 1000000 := by omega
      have HQ := Lib.hid hqn
      clear hm hq hqn
      generalize numL (m.take 8) = z0 at *
      generalize numL ((m.drop 8).take 8) = z1 at *
      generalize m.take 8 = m0 at *
      generalize (m.drop 8).take 8 = m1 at *
      generalize hm2 : by8 (l.drop (16 * (i + 1))) = m2 at *
      have HM2 := Lib.hid hm2
      clear hm2
      go_upto_region 5 with fail
      (refine wp_region_quiet_tail (C := fun w' => Rw (wr.drewN 1) w') 7 (by kernel_rfl) (by kernel_rfl) (Rw.refl _) ?_; simp only [List.take_succ_cons, List.take_zero, List.drop_succ_cons, List.drop_zero])
      (iterate 3 ((with_reducible refine wpQuiet_step (fun K hK => ?_)); refine quiet_autoE (by first | rfl | simp [Region.wanted, yielded]) ?_; apply Exists.intro; refine ⟨fun w' hw' => ?_, ?_⟩; (focus (go_simp; (first | done | rfl | ((try go_ints); (try simp only [↓IntWalk.iteOmega]); (try go_simp); (first | done | rfl))))); go_simp; (with_reducible apply hK); clear hK K))
      ((with_reducible refine wpQuiet_step (fun K hK => ?_)); refine quiet_callE (by first | rfl | simp [Region.wanted, yielded]) ?_; apply Exists.intro; apply Exists.intro; refine ⟨fun w' => ?_, ?_⟩; (focus (go_simp; try (first | exact ⟨rfl, rfl⟩ | rfl))); apply Exists.intro; refine ⟨fun w' hw' => quiet_same hw' (HS.out.1 w'), ?_⟩; go_simp; (with_reducible apply hK); clear hK K)
      (iterate 2 ((with_reducible refine wpQuiet_step (fun K hK => ?_)); refine quiet_autoE (by first | rfl | simp [Region.wanted, yielded]) ?_; apply Exists.intro; refine ⟨fun w' hw' => ?_, ?_⟩; (focus (go_simp; (first | done | rfl | ((try go_ints); (try simp only [↓IntWalk.iteOmega, true_and]); (try go_simp); (first | done | rfl))))); go_simp; (with_reducible apply hK); clear hK K))
      ((with_reducible refine wpQuiet_step (fun K hK => ?_)); refine quiet_callE (by first | rfl | simp [Region.wanted, yielded]) ?_; apply Exists.intro; apply Exists.intro; refine ⟨fun w' => ?_, ?_⟩; (focus (go_simp; try (first | exact ⟨rfl, rfl⟩ | rfl))); apply Exists.intro; refine ⟨fun w' hw' => quiet_same hw' (HS.out.2.1 w'), ?_⟩; go_simp; (with_reducible apply hK); clear hK K)
      refine wpQuiet_nil ?_
      intro w5 h5
      have H5 := Lib.hid (hr.out.rw (Rw.trans (below_drewN (Below.refl _ _) 1) h5))
      clear h5
      go_upto_region 6 with (go_at_call 107; refine (H5.out.add z0 z1 1 HS.out.2.2.1 HS.out.2.2.2).mono ?_; rintro e w6 ⟨rfl, H6⟩; replace H6 := Lib.hid H6)
      go_wp2_with (go_at_call 108; refine (H6.out.mul HK.out.1 HK.out.2.1).mono ?_; rintro e w7 ⟨rfl, H7⟩; replace H7 := Lib.hid H7)
      go_roundw
      case rel => exact ⟨i + 1, by rw [HM2.out], hni, by rw [HE.out]; exact H7⟩
      case measure =>
        show m2.size < (by8 m).size
        rw [← HM2.out, by8_size, List.length_drop, hmS]
        have := HN.out.1
        have := HQ.out
        omega
end Go.Proofs.YtcbkbjpdfanjpaaGreatDoor
