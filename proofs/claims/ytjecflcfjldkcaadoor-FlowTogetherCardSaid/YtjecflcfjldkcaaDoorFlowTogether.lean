/-
FlowTogether: the walk of the law.
-/
import Derived.Test.YtjecflcfjldkcaaDoorFlowSends
import Derived.Test.YtjecflcfjldkcaaDoorSeg
namespace Go.Proofs.YtjecflcfjldkcaaDoor
open Go.RowKit

def ivals (l : List Nat) : List Value := l.map fun d => Value.int .i64 (d : Nat)
theorem ivals_len (l : List Nat) : (ivals l).length = l.length := by simp [ivals]
theorem ivals_get (l : List Nat) (i : Nat) (h : i < l.length) : (ivals l)[i]? = some (.int .i64 (l.getD i 0 : Nat)) := by simp [ivals, h]
theorem intInfo : (Tryd.prog.info? 3).map (fun i => (i.zero, i.size, i.bytes)) = some (some (.int .i64 0), 1, 8) := by kernel_rfl
/-- what is known of both ends and of what is on the way -/
structure Tog (w : World) (wr : World) (bs br g : Nat) (vw : Value) (ks : List Nat) (window mx ls lr fresh used k : Nat) : Prop where
  seg : Seg wr g 1 vw ks.length (ivals ks)
  gs : g ≠ bs
  gr : g ≠ br
  gw : w.heap.size ≤ g
  sd : Sd wr bs ls mx
  rc : Rc wr br window lr mx fresh used
  sum : lr + fresh + used = window
  way : ls + ks.sum = lr
  all : ∀ x ∈ ks, x ≤ mx
  len : ks.length ≤ k
  bel : Below w.heap.size w wr
theorem sum_take (ks : List Nat) : ∀ j, j < ks.length → (ks.take (j + 1)).sum = (ks.take j).sum + ks.getD j 0 := by
  induction ks with
  | nil => intro j h; cases h
  | cons x ks ih =>
    intro j h
    cases j with
    | zero => simp
    | succ j =>
      have := ih j (by simpa using h)
      simp only [List.take_succ_cons, List.sum_cons, List.getD_cons_succ] at this ⊢
      omega
theorem sum_take_le (ks : List Nat) : ∀ j, (ks.take j).sum ≤ ks.sum := by
  induction ks with
  | nil => intro j; simp
  | cons x ks ih =>
    intro j
    cases j with
    | zero => simp
    | succ j => have := ih j; simp only [List.take_succ_cons, List.sum_cons]; omega

set_option maxHeartbeats 4000000 in
set_option maxRecDepth 100000 in
theorem together_ok (ad : Nat → Addr) (window most : Nat) (hwin : window < 4294967296) (hmost : most < 4294967296) (a : Option Addr) (len cap : Nat) (w : World)
    (hS : SentF w 71 errGs ad) (hacts : ActsAt w a len) :
    Calls Tryd.prog 6 #[.int .u32 window, .int .u32 most, .slice a len cap] w fun e w' => e = .returned (.bool true) ∧ Below w.heap.size w w' := by
  obtain ⟨i0, hi, hz0, hz1, hz2⟩ := info_parts intInfo
  have I := Lib.hid hi
  have I0 := Lib.hid hz0
  have I1 := Lib.hid hz1
  have I2 := Lib.hid hz2
  have HC := Lib.hid hacts
  have HS := Lib.hid hS
  clear hacts hS hi hz0 hz1 hz2
  obtain ⟨mx, hm1, hmx⟩ : ∃ mx : Nat, mx < 4294967296 ∧ max most 1 = mx := ⟨max most 1, by omega, rfl⟩
  have HMX := Lib.hid hmx
  have HWIN := Lib.hid hwin
  have HM1 := Lib.hid hm1
  clear hmx hwin hm1 hmost
  go_enter Tryd.func6, Tryd.ntmps6
  go_wp2_with fail
  refine (awake_ok ad _ HS.out).mono ?_
  rintro e w1 ⟨rfl, hb1⟩
  go_wp2_with fail
  refine (newSend_ok window _ _).mono ?_
  rintro e w2 ⟨rfl, hs2, hb2⟩
  rw [HMX.out] at hs2
  go_wp2_with fail
  refine (newRecv_ok window _ _).mono ?_
  rintro e w3 ⟨rfl, hr3, hb3⟩
  rw [HMX.out] at hr3
  have hs3 := hs2.below hb3 hs2.lt
  have hne : w1.heap.size ≠ w2.heap.size := by have := hs2.lt; omega
  have hB : Below w.heap.size w w3 := (hb1.trans (hb2.mono hb1.size)).trans (hb3.mono (Nat.le_trans hb1.size hb2.size))
  have hb : w.heap.size ≤ w1.heap.size := hb1.size
  have hbr : w.heap.size ≤ w2.heap.size := Nat.le_trans hb1.size hb2.size
  have hT : Hid (∃ g vw ks ls lr fresh used, vw = Value.slice none 0 0 ∧ Tog w w3 w1.heap.size w2.heap.size g vw ks window mx ls lr fresh used 0) :=
    ⟨w.heap.size + w1.heap.size + w2.heap.size + 1, _, [], window, window, 0, 0, rfl, { seg := Seg.nil _ _ _, gs := by omega, gr := by omega, gw := by omega, sd := hs3, rc := hr3, sum := by omega, way := by simp, all := (fun x h => by cases h), len := by simp, bel := hB }⟩
  clear hb1 hb2 hb3 hs2 hr3 hs3 hB
  generalize w1.heap.size = bs at *
  generalize w2.heap.size = br at *
  clear w1 w2
  go_wp2_with fail
  go_loopw [9, 10] (fun vw i wr => ∃ (k : Nat), k ≤ 120 ∧ i = .int .i64 k ∧ Hid (∃ g vw' ks ls lr fresh used, vw' = vw ∧ Tog w wr bs br g vw' ks window mx ls lr fresh used k)) (fun _ i _ => 120 - (intOf i).toNat)
  case atStart => exact ⟨0, by omega, rfl, hT⟩
  case round =>
    clear hT
    obtain ⟨k, hk, rfl, hT⟩ := hrel
    obtain ⟨g, vw, ks, ls, lr, fresh, used, rfl, T0⟩ := hT.out
    have T := Lib.hid T0
    clear hT
    have hlen := T0.len
    have hls : (ls : Int) ≤ 4294967295 := by have := T0.way; have := T0.sum; have := HWIN.out; omega
    have hlr : (lr : Int) ≤ 4294967295 := by have := T0.way; have := T0.sum; have := HWIN.out; omega
    have hBw := T0.bel
    clear T0
    by_cases hlt : k < len ∧ k < 120
    · obtain ⟨hkl, hk120⟩ := hlt
      obtain ⟨cb, co, kd, n, sx, rfl, hcb, hc0, hc1, hc2⟩ := HC.out k hkl
      have hk0 : wr.cell? ⟨cb, co + k * 3, none⟩ = some (.int .i64 kd) := by rw [hBw.cell (p := ⟨cb, co + k * 3, none⟩) hcb]; exact hc0
      have hk1 : wr.cell? ⟨cb, co + k * 3 + 1, none⟩ = some (.int .i64 n) := by rw [hBw.cell (p := ⟨cb, co + k * 3 + 1, none⟩) hcb]; exact hc1
      clear hc0 hc1 hc2
      by_cases hd1 : kd = 1
      · have g1 : (kd == 1) = true := by simp [hd1]
        clear hd1
        rcases ks with _ | ⟨x, ks⟩
        · obtain ⟨_, ao, cap', hv, _⟩ := T.out.seg
          have hv' : vw = .slice ao 0 cap' := hv
          subst hv'
          clear hv
          go_wp2_with fail
          go_roundw
          case rel => exact ⟨k + 1, by omega, by go_num, g, _, [], ls, lr, fresh, used, rfl, { T.out with len := Nat.zero_le _ }⟩
          case measure => simp [intOf]; omega
        · obtain ⟨off, cap', hv, hnc, hcm, hgl, hx, hrest⟩ := Seg.open T.out.seg (by simp)
          have c0 : wr.cell? ⟨g, off, none⟩ = some (.int .i64 x) := by have := hx 0 (by simp); simpa [ivals] using this
          have hxm : x ≤ mx := T.out.all x (by simp)
          have hsum := T.out.way
          have hsum2 := T.out.sum
          rw [List.sum_cons] at hsum
          have hlen' : ks.length + 1 ≤ k := by simpa using hlen
          simp only [List.length_cons, Nat.add_sub_cancel] at hv hnc hrest
          have hr2 : Hid (Seg wr g 1 (if cap' = 1 then .slice (some ⟨g, off, none⟩) ks.length (cap' - 1) else .slice (some ⟨g, off + 1, none⟩) ks.length (cap' - 1)) ks.length (ivals ks)) := hrest
          clear hrest hx hlen
          subst hv
          have HSUM := Lib.hid hsum
          have HSUM2 := Lib.hid hsum2
          have hwi := HWIN.out
          have hpos : (0 : Int) < (ks.length : Int) + 1 := by omega
          have gy := got_yes br window lr mx fresh used x x rfl wr T.out.rc (by omega) (by omega) HM1.out (by omega) hxm
          clear hsum hsum2 hwi
          unfold maxLen at hcm
          have hne' : ∀ v', Seg wr g 1 v' ks.length (ivals ks) → ∀ w3, Rc w3 br window (lr - x) mx (fresh + x) used → Only br wr w3 → Tog w w3 bs br g v' ks window mx ls (lr - x) (fresh + x) used (k + 1) := fun v' hs w3 r2 o2 =>
            { seg := hs.keeps o2 T.out.gr, gs := T.out.gs, gr := T.out.gr, gw := T.out.gw, sd := o2.blk T.out.sd hne, rc := r2, sum := by have := HSUM.out; have := HSUM2.out; omega, way := by have := HSUM.out; omega, all := (fun y hy => T.out.all y (by simp [hy])), len := by omega, bel := hBw.trans (o2.below hBw.size hbr) }
          by_cases hc1 : cap' = 1
          · have hr3 : Seg wr g 1 (.slice (some ⟨g, off, none⟩) ks.length 0) ks.length (ivals ks) := by have := hr2.out; rw [if_pos hc1, hc1] at this; exact this
            have HR := Lib.hid hr3
            have NX := Lib.hid (hne' _ hr3)
            clear hr3 hr2 hne'
            go_wp2_with fail
            refine gy.mono ?_
            rintro e w3 ⟨rfl, r2, o2⟩
            have T2 := Lib.hid (NX.out w3 r2 o2)
            clear r2 o2
            go_wp2_with fail
            go_roundw
            case rel => exact ⟨k + 1, by omega, by go_num, g, _, ks, ls, _, _, used, rfl, T2.out⟩
            case measure => simp [intOf]; omega
          · have hr3 := hr2.out
            rw [if_neg hc1] at hr3
            have HR := Lib.hid hr3
            have NX := Lib.hid (hne' _ hr3)
            clear hr3 hr2 hne'
            go_wp2_with fail
            refine gy.mono ?_
            rintro e w3 ⟨rfl, r2, o2⟩
            have T2 := Lib.hid (NX.out w3 r2 o2)
            clear r2 o2
            go_wp2_with fail
            go_roundw
            case rel => exact ⟨k + 1, by omega, by go_num, g, _, ks, ls, _, _, used, rfl, T2.out⟩
            case measure => simp [intOf]; omega
      · have g1 : (kd == 1) = false := by simp [hd1]
        clear hd1
        obtain ⟨ao, cap', hv⟩ : ∃ ao cap', vw = .slice ao ks.length cap' := by
          obtain ⟨_, ao, cap', hv, _⟩ := T.out.seg
          exact ⟨ao, cap', hv⟩
        subst hv
        by_cases hd2 : kd = 2
        · have g2 : (kd == 2) = true := by simp [hd2]
          clear hd2
          obtain ⟨d, hd⟩ : ∃ d, uses n fresh = d := ⟨_, rfl⟩
          have hdf : d ≤ fresh := by rw [← hd]; unfold uses; omega
          obtain ⟨gv, hgv⟩ : ∃ gv, gives window (used + d) = gv := ⟨_, rfl⟩
          have hgu : gv ≤ used + d := by rw [← hgv]; unfold gives; split <;> omega
          have uo := used_ok br window lr mx fresh used n wr T.out.rc (by have := T.out.sum; have := HWIN.out; omega)
          have hb2 : lr + (used + d) < 4294967296 := by have := T.out.sum; have := HWIN.out; omega
          have ao' := fun w3 h => adjust_ok br window lr mx (fresh - d) (used + d) w3 h HWIN.out hb2
          have gyo := fun w3 h => grow_yes bs ls mx gv w3 h (by have := T.out.sum; have := HWIN.out; have := T.out.way; omega)
          rw [hd] at uo
          rw [hgv] at ao'
          have fin : ∀ w3 w4, Only br wr w3 → Only br w3 w4 → Rc w4 br window (lr + gv) mx (fresh - d) (used + d - gv) → Sd w4 bs ls mx ∧ (∀ w5, Sd w5 bs (ls + gv) mx → Only bs w4 w5 → Tog w w5 bs br g (.slice ao ks.length cap') ks window mx (ls + gv) (lr + gv) (fresh - d) (used + d - gv) (k + 1)) := by
            intro w3 w4 o3 o4 r4
            have s4 := o4.blk (o3.blk T.out.sd hne) hne
            have e4 := (T.out.seg.keeps o3 T.out.gr).keeps o4 T.out.gr
            have hb3 := hBw.trans (o3.below hBw.size hbr)
            have hb4 := hb3.trans (o4.below hb3.size hbr)
            refine ⟨s4, fun w5 h5 o5 => ?_⟩
            exact { seg := e4.keeps o5 T.out.gs, gs := T.out.gs, gr := T.out.gr, gw := T.out.gw, sd := h5, rc := o5.blk r4 (Ne.symm hne), sum := by have := T.out.sum; omega, way := by have := T.out.way; omega, all := T.out.all, len := by omega, bel := hb4.trans (o5.below hb4.size hb) }
          have FIN := Lib.hid fin
          have AO := Lib.hid ao'
          have GY := Lib.hid gyo
          clear fin ao' gyo hgv hd hgu hb2
          have hgv : (gv : Int) ≤ 4294967295 ∨ True := .inr trivial
          clear hgv
          rcases Nat.eq_zero_or_pos gv with rfl | hpos
          · go_wp2_with fail
            refine uo.mono ?_
            rintro e w3 ⟨rfl, r3, o3⟩
            have O3 := Lib.hid o3
            go_wp2_with fail
            refine (AO.out w3 r3).mono ?_
            rintro e w4 ⟨rfl, r4, o4⟩
            obtain ⟨s4, t5⟩ := FIN.out w3 w4 O3.out o4 r4
            have T2 := Lib.hid (t5 w4 s4 (Only.refl _ _))
            clear r3 o3 r4 o4 s4 t5
            go_wp2_with fail
            go_roundw
            case rel => exact ⟨k + 1, by omega, by go_num, g, _, ks, _, _, _, _, rfl, T2.out⟩
            case measure => simp [intOf]; omega
          · have hpi : (0 : Int) < gv := by omega
            go_wp2_with fail
            refine uo.mono ?_
            rintro e w3 ⟨rfl, r3, o3⟩
            have O3 := Lib.hid o3
            go_wp2_with fail
            refine (AO.out w3 r3).mono ?_
            rintro e w4 ⟨rfl, r4, o4⟩
            obtain ⟨s4, t5⟩ := FIN.out w3 w4 O3.out o4 r4
            have S4 := Lib.hid s4
            have T5 := Lib.hid t5
            clear r3 o3 r4 o4 s4 t5
            go_wp2_with fail
            refine (GY.out w4 S4.out).mono ?_
            rintro e w5 ⟨rfl, s5, o5⟩
            have T2 := Lib.hid (T5.out w5 s5 o5)
            clear s5 o5
            go_wp2_with fail
            go_roundw
            case rel => exact ⟨k + 1, by omega, by go_num, g, _, ks, _, _, _, _, rfl, T2.out⟩
            case measure => simp [intOf]; omega
        · have g2 : (kd == 2) = false := by simp [hd2]
          clear hd2
          obtain ⟨t, ht⟩ : ∃ t, sends n ls mx = t := ⟨_, rfl⟩
          have htl : t ≤ ls := by rw [← ht]; unfold sends; omega
          have htm : t ≤ mx := by rw [← ht]; unfold sends; omega
          have tk := sendTake_ok bs ls mx n wr T.out.sd (by omega) HM1.out
          rw [ht] at tk
          clear ht
          rcases Nat.eq_zero_or_pos t with rfl | hpos
          · go_wp2_with fail
            refine tk.mono ?_
            rintro e w3 ⟨rfl, s3, o3⟩
            have T2 : Hid (Tog w w3 bs br g (.slice ao ks.length cap') ks window mx ls lr fresh used (k + 1)) := { seg := T.out.seg.keeps o3 T.out.gs, gs := T.out.gs, gr := T.out.gr, gw := T.out.gw, sd := s3, rc := o3.blk T.out.rc (Ne.symm hne), sum := T.out.sum, way := T.out.way, all := T.out.all, len := by omega, bel := hBw.trans (o3.below hBw.size hb) }
            clear s3 o3
            go_wp2_with fail
            go_roundw
            case rel => exact ⟨k + 1, by omega, by go_num, g, _, ks, _, _, _, _, rfl, T2.out⟩
            case measure => simp [intOf]; omega
          · have hpi : (0 : Int) < t := by omega
            go_wp2_with fail
            refine tk.mono ?_
            rintro e w3 ⟨rfl, s3, o3⟩
            have hB3 := hBw.trans (o3.below hBw.size hb)
            have T2 : Hid (Tog w w3 bs br g (.slice ao ks.length cap') ks window mx (ls - t) (lr - t) (fresh + t) used (k + 1) ∨ True) := .inr trivial
            have sg := T.out.seg.keeps o3 T.out.gs
            have rc3 := o3.blk T.out.rc (Ne.symm hne)
            have AL := Lib.hid ((Below.refl _ w3).alloc (Nat.le_refl _) (.cells #[.int .i64 t] 3))
            have SG := Lib.hid (sg.below AL.out)
            have fin : ∀ g' off cap2 w4, Seg w4 g' 1 (.slice (some ⟨g', off, none⟩) (ks.length + 1) cap2) (ks.length + 1) (ivals ks ++ [.int .i64 t]) → (g' = g ∨ w3.heap.size + 1 ≤ g') → Keeps (fun k => k = g) (w3.alloc (.cells #[.int .i64 t] 3)) w4 →
                Tog w w4 bs br g' (.slice (some ⟨g', off, none⟩) (ks.length + 1) cap2) (ks ++ [t]) window mx (ls - t) lr fresh used (k + 1) := by
              intro g' off cap2 w4 hs hg' hk4
              have s4 := s3.below AL.out s3.lt
              have r4 := rc3.below AL.out rc3.lt
              have hB4 := hB3.trans (AL.out.mono hB3.size)
              have hz : w3.heap.size ≤ (w3.alloc (.cells #[.int .i64 t] 3)).heap.size := AL.out.size
              have l1 := s3.lt
              have l2 := rc3.lt
              have hgg : g' ≠ bs ∧ g' ≠ br ∧ w.heap.size ≤ g' := by
                rcases hg' with rfl | hg'
                · exact ⟨T.out.gs, T.out.gr, T.out.gw⟩
                · have := hB3.size
                  exact ⟨by omega, by omega, by omega⟩
              exact { seg := by
                        have e1 : (ks ++ [t]).length = ks.length + 1 := by simp
                        rw [e1]; simpa [ivals] using hs
                      gs := hgg.1, gr := hgg.2.1, gw := hgg.2.2, sd := hk4.blk s4 (Ne.symm T.out.gs), rc := hk4.blk r4 (Ne.symm T.out.gr), sum := T.out.sum, way := by have := T.out.way; simp; omega
                      all := (fun x hx => by rcases List.mem_append.1 hx with h | h; · exact T.out.all x h
                                             · simp at h; omega)
                      len := by simp; omega, bel := hB4.trans (hk4.below hB4.size (fun k hk e => by have := T.out.gw; omega)) }
            have FIN := Lib.hid fin
            clear s3 o3 sg rc3 fin T2
            go_wp2_with (at_builtin; refine wpList_append_seg _ rfl (.tmp 56) (.tmp 58) 47 rfl 3 i0 (.int .i64 0) 1 8 Tryd.underlying47 I.out I0.out I1.out I2.out rfl (by decide) g _ ks.length (ivals ks) rfl SG.out ⟨w3.heap.size, 0, none⟩ 1 1 [.int .i64 t] rfl rfl ?c1 ?c2 (by decide) ?b1 ?b2 ?grow)
            case c1 => intro j u hj; match j, hj with | 0, hj => simp at hj; subst hj; simp [Addr.add]
            case c2 => intro u hu; simp at hu; subst hu; rfl
            case b1 => unfold maxLen; omega
            case b2 => omega
            case grow =>
              intro g' off cap2 w4 hs hg' _ hk4
              have T2 := Lib.hid (FIN.out g' off cap2 w4 hs hg' hk4)
              clear hs hg' hk4
              go_wp2_with fail
              go_roundw
              case rel => exact ⟨k + 1, by omega, by go_num, g', _, _, _, _, _, _, rfl, T2.out⟩
              case measure => simp [intOf]; omega
    · have hE : Hid (((ls : Int) + (ks.sum : Nat) == (lr : Int)) = true) := by have := T.out.way; show _ = true; simp; omega
      have hsl : ks.sum ≤ 4294967295 := by have := T.out.way; omega
      rcases ks with _ | ⟨x, ks⟩
      · obtain ⟨ao, cap', hv⟩ : ∃ ao cap', vw = .slice ao 0 cap' := by
          obtain ⟨_, ao, cap', hv, _⟩ := T.out.seg
          exact ⟨ao, cap', hv⟩
        subst hv
        by_cases hkl : k < len
        all_goals
          go_wp2_with fail
          go_loop [14, 90] (fun on i => i = .int .i64 0 ∧ on = .int .i64 0) (fun _ _ => 0)
          case atStart => exact ⟨rfl, rfl⟩
          case round =>
            obtain ⟨rfl, rfl⟩ := hrel
            go_wp2_with fail
            refine (sendLeft_ok bs ls mx wr T.out.sd).mono ?_
            rintro e w3 ⟨rfl, rfl⟩
            go_wp2_with fail
            refine (recvLeft_ok br window lr mx fresh used wr T.out.rc).mono ?_
            rintro e w3 ⟨rfl, rfl⟩
            have hE2 : ((ls : Int) == (lr : Int)) = true := by simpa using hE.out
            go_wp2_with fail
            go_ret
            exact ⟨rfl, hBw⟩
      · generalize hks : x :: ks = l at *
        have hl0 : 0 < l.length := by rw [← hks]; simp
        clear hks
        obtain ⟨off, cap', hv, hnc, hcm, hgl, hx, -⟩ := Seg.open T.out.seg hl0
        subst hv
        have HX := Lib.hid hx
        clear hx
        unfold maxLen at hcm
        by_cases hkl : k < len
        all_goals
          go_wp2_with fail
          go_loop [14, 90] (fun on i => ∃ j : Nat, i = .int .i64 j ∧ j ≤ l.length ∧ on = .int .i64 ((l.take j).sum : Nat)) (fun _ i => l.length - (intOf i).toNat)
          case atStart => exact ⟨0, rfl, by omega, rfl⟩
          case round =>
            obtain ⟨j, rfl, hj, rfl⟩ := hrel
            have hst := sum_take_le l j
            by_cases hjl : j < l.length
            · have c0 : wr.cell? ⟨g, off + j, none⟩ = some (.int .i64 (l.getD j 0 : Nat)) := by rw [HX.out j (by omega), ivals_get l j hjl]
              have ST := Lib.hid (sum_take l j hjl)
              have hst2 := sum_take_le l (j + 1)
              rw [ST.out] at hst2
              generalize l.getD j 0 = y at *
              go_wp2_with fail
              go_round
              case rel => exact ⟨j + 1, by go_num, by omega, val_int (by rw [ST.out]; omega)⟩
              case measure => simp [intOf]; omega
            · obtain rfl : j = l.length := by omega
              rw [List.take_length]
              go_wp2_with fail
              refine (sendLeft_ok bs ls mx wr T.out.sd).mono ?_
              rintro e w3 ⟨rfl, rfl⟩
              go_wp2_with fail
              refine (recvLeft_ok br window lr mx fresh used wr T.out.rc).mono ?_
              rintro e w3 ⟨rfl, rfl⟩
              have hE2 := hE.out
              go_wp2_with fail
              go_ret
              exact ⟨rfl, hBw⟩
end Go.Proofs.YtjecflcfjldkcaaDoor
