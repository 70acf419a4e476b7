/-
A keeper's contracts: Vars.
-/
import Derived.Test.YtaenfkekdhnakaaKNew
import Derived.Test.YtaenfkekdhnakaaMany
namespace Go.Proofs.Ytaenfkekdhnakaa
open Go.RowKit

def KS.heldN (s : KS) : Nat → List ByteArray
  | 0 => []
  | i + 1 => if s.wants.getD i 0 = 1 then s.heldN i ++ [s.names.getD i ⟨#[]⟩] else s.heldN i
def KS.held (s : KS) : List ByteArray := s.heldN s.names.length
def KS.dueV (s : KS) : Nat := if s.state = 0 then s.due else 0
theorem heldN_len (s : KS) : ∀ i, (s.heldN i).length ≤ i
  | 0 => Nat.le_refl _
  | i + 1 => by
    have := heldN_len s i
    unfold KS.heldN
    split
    · simp; omega
    · omega
def vcells (s : KS) (vh : Value) : List Value := [.int .i64 s.state, .int .i64 s.clock, .int .i64 s.dueV, .int .i64 s.fails, .int .i64 s.asked.length, vh]
def vzero : List Value := [.int .i64 0, .int .i64 0, .int .i64 0, .int .i64 0, .int .i64 0, .slice none 0 0]

theorem more_ne {f : Nat → Bool} {i k : Nat} (h : k ≠ i) : more f i k = f k := by simp [more, h]
theorem more_eq {f : Nat → Bool} {i : Nat} : more f i i = true := by simp [more]
def D4 (W0 W1 W2 W3 : World) : Bool → Bool → Bool → World → Prop
  | false, false, false, w => w = W0
  | true, false, false, w => w = W1
  | true, true, false, w => w = W2
  | true, true, true, w => w = W3
  | _, _, _, _ => False
theorem D4.all {W0 W1 W2 W3 : World} {p : World → Prop} (h0 : p W0) (h1 : p W1) (h2 : p W2) (h3 : p W3) : ∀ {x y z : Bool} {w : World}, D4 W0 W1 W2 W3 x y z w → p w := by
  intro x y z w h
  cases x <;> cases y <;> cases z <;> simp only [D4] at h <;> first | (subst h; assumption) | exact h.elim

theorem D4.quiet {W0 W1 W2 W3 : World} {k : Nat} (h1 : 10 ≠ k) (h2 : 11 ≠ k) (h3 : 13 ≠ k) : ∀ (f : Nat → Bool) (w : World), D4 W0 W1 W2 W3 (f 10) (f 11) (f 13) w → D4 W0 W1 W2 W3 (more f k 10) (more f k 11) (more f k 13) w := fun f w h => by
  rw [more_ne h1, more_ne h2, more_ne h3]; exact h
theorem D4.at0 {W0 W1 W2 W3 : World} {y z : Bool} {w : World} (h : D4 W0 W1 W2 W3 false y z w) : w = W0 ∧ y = false ∧ z = false := by
  cases y <;> cases z <;> simp only [D4] at h <;> exact ⟨h, rfl, rfl⟩
theorem D4.at1 {W0 W1 W2 W3 : World} {z : Bool} {w : World} (h : D4 W0 W1 W2 W3 true false z w) : w = W1 ∧ z = false := by
  cases z <;> simp only [D4] at h
  exact ⟨h, rfl⟩
theorem D4.at2 {W0 W1 W2 W3 : World} {x : Bool} {w : World} (h : D4 W0 W1 W2 W3 x true false w) : w = W2 ∧ x = true := by
  cases x <;> simp only [D4] at h
  exact ⟨h, rfl⟩
theorem D4.early {W0 W1 W2 W3 : World} {p : World → Prop} (h0 : p W0) (h1 : p W1) : ∀ {x z : Bool} {w : World}, D4 W0 W1 W2 W3 x false z w → p w := by
  intro x z w h
  cases x <;> cases z <;> simp only [D4] at h <;> subst h <;> assumption
theorem may_dep {md : Region.Mode} {ops : Array Oper} {f : Nat → Bool} {i j : Nat} (h : may md ops i f) (hw : waits md ops i j = true) : f j = true := by
  unfold waits at hw
  cases ho : ops[i]? with
  | none => rw [ho] at hw; simp at hw
  | some o =>
    rw [ho] at hw
    simp only [Option.map_some, Option.getD_some, Array.any_eq_true'] at hw
    obtain ⟨e, he, hbe⟩ := hw
    simp only [Bool.and_eq_true, beq_iff_eq] at hbe
    have := h.2.1 o ho e he hbe.1
    rw [hbe.2] at this; exact this
/-- a struct returned out of its block -/
theorem ret_stru {P : Program} {fn : Func} {R : Ending → World → Prop} {a : Act} {w : World} {p : Tmp} {ty : TypeId} {fs : Array Field} {b : Nat} {t : TypeId} {cs : List Value} (h : fn.results = #[.cell p ty]) (hb : Blk w b t cs)
    (hu : P.underlying ty = some (.struct fs)) (hi : (P.info? ty).map (·.size) = some cs.length) (hp : a.tmps.getD p undef = .pointer (some ⟨b, 0, none⟩)) (hd : a.defers = []) (hR : R (.returned (.agg cs.toArray)) w) : bodyPost P fn R .ret a w :=
  bodyPost_ret (results_cell_row h a.tmps w b t cs.toArray (0, 0) _ hp hb hu rfl (by rw [hi]; simp)) hd hR
theorem vars_size : (Try.prog.info? 47).map (·.size) = some 6 := by kernel_rfl
structure VR (w : World) (s : KS) (wr : World) (i : Nat) (vh : Value) : Prop where
  br : Blk wr w.heap.size 47 vzero
  bv : Blk wr (w.heap.size + 1) 47 (vcells s vh)
  sg : Sg wr 1 vh (s.heldN i).length (svals (s.heldN i))
  bel : Below w.heap.size w wr
  new : ∀ g, vblk vh = some g → w.heap.size + 2 ≤ g
set_option maxHeartbeats 4000000 in
set_option maxRecDepth 100000 in
theorem vars_ok (B b : Nat) (vn vw va : Value) (s : KS) (w : World) (hk : Kp w B b vn vw va s) (ho : s.Ok) :
    Calls Try.prog 19 #[.pointer (some ⟨b, 0, none⟩)] w fun e w' => ∃ vh, e = .returned (.agg (vcells s vh).toArray) ∧ Sg w' 1 vh s.held.length (svals s.held) ∧ (∀ g, vblk vh = some g → w.heap.size ≤ g) ∧ Below w.heap.size w w' := by
  have c4 := hk.blk.cell 4 _ rfl
  have c5 := hk.blk.cell 5 _ rfl
  have c8 := hk.blk.cell 8 _ rfl
  have c10 := hk.blk.cell 10 _ rfl
  have c7 := hk.blk.cell 7 _ rfl
  have hbl : b < w.heap.size := hk.blk.lt
  have HK := Lib.hid hk
  have HO := Lib.hid ho
  obtain ⟨ao, cap, hva⟩ : ∃ ao cap, va = .slice ao s.asked.length cap := by
    obtain ⟨_, ao, cap, hv, _⟩ := hk.asked
    exact ⟨ao, cap, hv⟩
  rw [hva] at c10
  clear hk ho hva
  go_enter Try.func19, Try.ntmps19
  go_wp2_with fail
  go_region
  go_upto_region 2 with fail
  refine wp_gen (fun w1 => Blk w1 w.heap.size 47 vzero ∧ Blk w1 (w.heap.size + 1) 47 [.int .i64 s.state, .int .i64 s.clock, .int .i64 0, .int .i64 s.fails, .int .i64 s.asked.length, .slice none 0 0] ∧ Below w.heap.size w w1) ⟨?_, ?_, ?_⟩ ?_
  · exact (Blk.new w _ vzero).alloc _
  · have h := Blk.new (w.alloc (.cells vzero.toArray 47)) 47 [.int .i64 s.state, .int .i64 s.clock, .int .i64 0, .int .i64 s.fails, .int .i64 s.asked.length, .slice none 0 0]
    rw [show (w.alloc (.cells vzero.toArray 47)).heap.size = w.heap.size + 1 by simp] at h
    exact h.drew 1
  · exact below_drewN (((Below.refl _ _).alloc (Nat.le_refl _) _).alloc (by simp) _) 1
  rintro w1 ⟨br1, bv1, hB1⟩
  have K1 := Lib.hid (HK.out.below hB1)
  have BR1 := Lib.hid br1
  have BV1 := Lib.hid bv1
  have HB1 := Lib.hid hB1
  clear br1 bv1 hB1 c4 c5 c7 c8 c10
  have c4 := K1.out.blk.cell 4 _ rfl
  have c7 := K1.out.blk.cell 7 _ rfl
  go_upto_if 28 with fail
  go_cut [] (fun w2 => Blk w2 w.heap.size 47 vzero ∧ Blk w2 (w.heap.size + 1) 47 (vcells s (.slice none 0 0)) ∧ Below w.heap.size w w2)
  case first =>
    by_cases h0 : s.state = 0
    · have g0 : ((s.state : Int) == 0) = true := by simp [h0]
      have c2 := BV1.out.cell 2 _ rfl
      have f2 := BV1.out.free 2
      have DV : Hid (s.dueV = s.due) := by show s.dueV = s.due; unfold KS.dueV; rw [if_pos h0]
      clear h0
      go_wp2_with fail
      go_meet
      refine ⟨BR1.out.far (by omega) 2 _, ?_, HB1.out.setCell (p := ⟨w.heap.size + 1, 2, none⟩) (by show w.heap.size ≤ w.heap.size + 1; omega) _⟩
      unfold vcells
      rw [DV.out]
      exact BV1.out.set 2 _
    · have g0 : ((s.state : Int) == 0) = false := by simp; omega
      have DV : Hid (s.dueV = 0) := by show s.dueV = 0; unfold KS.dueV; rw [if_neg h0]
      clear h0
      go_wp2_with fail
      go_meet
      refine ⟨BR1.out, ?_, HB1.out⟩
      unfold vcells
      rw [DV.out]
      exact BV1.out
  case rest =>
  obtain ⟨br2, bv2, hB2⟩ := hcut
  have HR : Hid (VR w s wc 0 (.slice none 0 0)) := { br := br2, bv := bv2, sg := Sg.nil _ _, bel := hB2, new := fun g h => by simp [vblk] at h }
  obtain ⟨i0, hi, hz0, hz1, hz2⟩ := info_parts strInfo
  have I := Lib.hid hi
  have I0 := Lib.hid hz0
  have I1 := Lib.hid hz1
  have I2 := Lib.hid hz2
  clear hi hz0 hz1 hz2
  have HNW : Hid (s.names.length = s.wants.length) := HO.out.names
  have hfew := HO.out.few
  obtain ⟨n, hn⟩ : ∃ n, n = s.names.length := ⟨_, rfl⟩
  have HN := Lib.hid hn
  have K2 := Lib.hid (HK.out.below hB2)
  have c9 := K2.out.blk.cell 9 _ rfl
  clear br2 bv2 hB2 c4 c7 BR1 BV1 HB1
  rcases Nat.eq_zero_or_pos n with h0 | hpos
  · obtain ⟨ao2, cw, hv⟩ : ∃ ao cw, vw = .slice ao 0 cw := by
      obtain ⟨_, ao, cap, hv, _⟩ := HK.out.wants
      exact ⟨ao, cap, by rw [hv, ← HNW.out, ← hn, h0]⟩
    have hheld : Hid (s.held = []) := by show s.held = []; unfold KS.held; rw [← hn, h0]; rfl
    subst hv
    clear hn h0 hfew HN
    go_wp2_with fail
    go_loopw [39] (fun vi wr => vi = .int .i64 0 ∧ wc = wr) (fun _ _ => 0)
    case atStart => exact ⟨rfl, rfl⟩
    case round =>
      obtain ⟨rfl, rfl⟩ := hrel
      have v0 := HR.out.bv.cell 0 _ rfl
      have v1 := HR.out.bv.cell 1 _ rfl
      have v2 := HR.out.bv.cell 2 _ rfl
      have v3 := HR.out.bv.cell 3 _ rfl
      have v4 := HR.out.bv.cell 4 _ rfl
      have v5 := HR.out.bv.cell 5 _ rfl
      have r0 := HR.out.br.cell 0 _ rfl
      have r1 := HR.out.br.cell 1 _ rfl
      have r2 := HR.out.br.cell 2 _ rfl
      have r3 := HR.out.br.cell 3 _ rfl
      have r4 := HR.out.br.cell 4 _ rfl
      have r5 := HR.out.br.cell 5 _ rfl
      have e0 := HR.out.br.free 0
      have e1 := HR.out.br.free 1
      have e2 := HR.out.br.free 2
      have e3 := HR.out.br.free 3
      have e4 := HR.out.br.free 4
      have e5 := HR.out.br.free 5
      go_wp2_with fail
      have HBR := (((((HR.out.br.set 0 (.int .i64 s.state)).set 1 (.int .i64 s.clock)).set 2 (.int .i64 s.dueV)).set 3 (.int .i64 s.fails)).set 4 (.int .i64 s.asked.length)).set 5 (.slice none 0 0)
      have hB := (((((below_set' HR.out.bel w.heap.size 0 (.int .i64 s.state) (Nat.le_refl _)) |> (below_set' · w.heap.size 1 (.int .i64 s.clock) (Nat.le_refl _))) |> (below_set' · w.heap.size 2 (.int .i64 s.dueV) (Nat.le_refl _))) |> (below_set' · w.heap.size 3 (.int .i64 s.fails) (Nat.le_refl _))) |> (below_set' · w.heap.size 4 (.int .i64 s.asked.length) (Nat.le_refl _))) |> (below_set' · w.heap.size 5 (.slice none 0 0) (Nat.le_refl _))
      refine ret_stru rfl HBR Try.underlying47 vars_size rfl rfl ⟨_, rfl, ?_, fun g h => by simp [vblk] at h, hB⟩
      rw [hheld.out]
      exact Sg.nil _ _
  · obtain ⟨gw, ow, cw, hvw, hwc, hwm, hvbw, -, -, -⟩ := HK.out.wants.open (by rw [← HNW.out, ← hn]; exact hpos)
    obtain ⟨gn, on, cn, hvn, hcn, hcn2, hvbn, -, -, -⟩ := HK.out.names.open (by rw [← hn]; exact hpos)
    rw [← HNW.out, ← hn] at hvw hwc
    rw [← hn] at hvn hcn
    subst hvw hvn
    have hn16 : n ≤ 16 := by rw [hn]; exact hfew
    clear hn
    unfold maxLen at hwm hcn2
    go_wp2_with fail
    go_loopw [39] (fun vi wr => ∃ i : Nat, vi = .int .i64 i ∧ i ≤ n ∧ Hid (∃ vh, VR w s wr i vh)) (fun vi _ => n - (intOf vi).toNat)
    case atStart => exact ⟨0, rfl, by omega, _, HR.out⟩
    case round =>
      clear HR c9 K2
      obtain ⟨i, rfl, hi, hR⟩ := hrel
      obtain ⟨vh, R1⟩ := hR.out
      have R := Lib.hid R1
      have K3 := Lib.hid (HK.out.below R1.bel)
      obtain ⟨ah, ch, hvh⟩ : ∃ ah ch, vh = .slice ah (s.heldN i).length ch := by
        obtain ⟨_, ah, ch, hv, _⟩ := R1.sg
        exact ⟨ah, ch, hv⟩
      clear hR R1
      by_cases hgo : i < n
      · have hw0 := K3.out.wants
        rw [← HNW.out, ← HN.out] at hw0
        have hcw := (hw0.cellAt i hgo).1
        rw [nvals_get _ _ (by rw [← HNW.out, ← HN.out]; exact hgo)] at hcw
        have hn0 := K3.out.names
        rw [← HN.out] at hn0
        have hcn' := (hn0.cellAt i hgo).1
        rw [svals_get _ _ (by rw [← HN.out]; exact hgo)] at hcn'
        obtain ⟨nm, hnm⟩ : ∃ nm, nm = s.names.getD i ⟨#[]⟩ := ⟨_, rfl⟩
        rw [← hnm] at hcn'
        have HNM := Lib.hid hnm
        have CN := Lib.hid hcn'
        clear hnm hw0 hn0 hcn'
        obtain ⟨x, hx⟩ : ∃ x, x = s.wants.getD i 0 := ⟨_, rfl⟩
        rw [← hx] at hcw
        have HX := Lib.hid hx
        clear hx
        by_cases hx1 : x = 1
        · have g1 : ((x : Int) == 1) = true := by simp [hx1]
          have HX1 := Lib.hid hx1
          clear hx1
          go_upto_region 8 with fail
          have c0 := K3.out.blk.cell 0 _ rfl
          have hlv : w.heap.size + 1 < wr.heap.size := R.out.bv.lt
          have hbr : b < wr.heap.size := K3.out.blk.lt
          have al : Below wr.heap.size wr (wr.drew.alloc (.cells #[.string nm] 9)) := (below_drewN (Below.refl _ wr) 1).alloc (Nat.le_refl _) _
          have hlen := heldN_len s i
          obtain ⟨g', of', cp', W2, hrun, hs2, hv2, hg2, hk2⟩ := run_append_sg (P := Try.prog) (wr.drew.alloc (.cells #[.string nm] 9)) 22 22 9 i0 (.string ⟨#[]⟩) 1 16 Try.underlying22 I.out I0.out I1.out I2.out rfl (by decide) vh (s.heldN i).length (svals (s.heldN i)) (R.out.sg.below al) ⟨wr.heap.size, 0, none⟩ 1 1 [.string nm] rfl
            (fun j u hj => by match j, hj with | 0, hj => simp at hj; subst hj; rw [Addr.add_zero']; exact (Blk.new wr.drew 9 [.string nm]).cell 0 _ rfl) (fun u hu => by simp at hu; subst hu; rfl) (by decide) (by unfold maxLen; omega) (by omega)
          have HRUN := Lib.hid hrun
          have nb : ∀ k, k < w.heap.size + 2 → vblk vh ≠ some k := fun k hk e => by have := R.out.new k e; omega
          have bv1 := R.out.bv.below al R.out.bv.lt
          have br1 := R.out.br.below al R.out.br.lt
          have bv2 := hk2.blk bv1 (nb _ (by omega))
          have br2 := hk2.blk br1 (nb _ (by omega))
          have k1 := K3.out.below al
          have cb1 : (wr.drew.alloc (.cells #[.string nm] 9)).cell? ⟨b, 0, none⟩ = some (.slice (some ⟨gn, on, none⟩) n cn) := k1.blk.cell 0 _ rfl
          have cb2 : W2.cell? ⟨b, 0, none⟩ = some (.slice (some ⟨gn, on, none⟩) n cn) := (hk2.blk k1.blk (nb _ (by omega))).cell 0 _ rfl
          obtain ⟨v2, hv2e⟩ : ∃ v2, v2 = Value.slice (some ⟨g', of', none⟩) ((s.heldN i).length + 1) cp' := ⟨_, rfl⟩
          have cb3 : (W2.setCell ⟨w.heap.size + 1, 5, none⟩ v2).cell? ⟨b, 0, none⟩ = some (.slice (some ⟨gn, on, none⟩) n cn) := by
            rw [World.cell?_setCell_other _ _ _ _ (by simp)]; exact cb2
          have FB := @D4.all wr.drew (wr.drew.alloc (.cells #[.string nm] 9)) W2 (W2.setCell ⟨w.heap.size + 1, 5, none⟩ v2) (fun w' => w'.cell? ⟨b, 0, none⟩ = some (.slice (some ⟨gn, on, none⟩) n cn)) c0 cb1 cb2 cb3
          have FV := @D4.early wr.drew (wr.drew.alloc (.cells #[.string nm] 9)) W2 (W2.setCell ⟨w.heap.size + 1, 5, none⟩ v2) (fun w' => w'.cell? ⟨w.heap.size + 1, 5, none⟩ = some vh) (R.out.bv.cell 5 _ rfl) (bv1.cell 5 _ rfl)
          have hgnw : gn < wr.heap.size := K3.out.names.lt hvbn
          have cn1 : (wr.drew.alloc (.cells #[.string nm] 9)).cell? ⟨gn, on + i, none⟩ = some (.string nm) := (al.cell (p := ⟨gn, on + i, none⟩) hgnw).trans CN.out
          have hgno : gn < w.heap.size := HK.out.names.lt hvbn
          have cn2 : W2.cell? ⟨gn, on + i, none⟩ = some (.string nm) := hk2.cell cn1 (nb _ (by show gn < _; omega))
          have cn3 : (W2.setCell ⟨w.heap.size + 1, 5, none⟩ v2).cell? ⟨gn, on + i, none⟩ = some (.string nm) := by
            rw [World.cell?_setCell_other _ _ _ _ (by intro e; have := congrArg Addr.block e; simp at this; omega)]; exact cn2
          have FN := @D4.all wr.drew (wr.drew.alloc (.cells #[.string nm] 9)) W2 (W2.setCell ⟨w.heap.size + 1, 5, none⟩ v2) (fun w' => w'.cell? ⟨gn, on + i, none⟩ = some (.string nm)) CN.out cn1 cn2 cn3
          clear cn1 cn2 cn3
          have v5 := bv2.cell 5 _ rfl
          have fv5 := bv2.free 5
          have HV2 := Lib.hid hv2e
          clear hv2e
          refine region_many (fun f w' => D4 wr.drew (wr.drew.alloc (.cells #[.string nm] 9)) W2 (W2.setCell ⟨w.heap.size + 1, 5, none⟩ v2) (f 10) (f 11) (f 13) w') (by kernel_rfl) (by kernel_rfl) (fun k => Nat.lt_or_ge k _) rfl ?_
          (refine many_step (fun K hK => ?_); refine many_quietK (.pointer (some ⟨w.heap.size + 1, 5, none⟩)) (D4.quiet (by decide) (by decide) (by decide)) (by first | rfl | simp [Region.wanted, yielded]) (fun f w' hm hw' => by go_simp) ?_; go_simp; (with_reducible apply hK); clear hK K)
          (refine many_step (fun K hK => ?_); refine many_quietK (vh) (D4.quiet (by decide) (by decide) (by decide)) (by first | rfl | simp [Region.wanted, yielded]) (fun f w' hm hw' => by have h0 : f 11 = false := hm.2.2 11 (by kernel_rfl); have hw2 := hw'; simp only [h0] at hw2; have h := FV hw2; go_simp; try simp [h]) ?_; go_simp; (with_reducible apply hK); clear hK K)
          (refine many_step (fun K hK => ?_); refine many_quietK (.pointer (some ⟨b, 0, none⟩)) (D4.quiet (by decide) (by decide) (by decide)) (by first | rfl | simp [Region.wanted, yielded]) (fun f w' hm hw' => by go_simp) ?_; go_simp; (with_reducible apply hK); clear hK K)
          (refine many_step (fun K hK => ?_); refine many_quietK (.pointer (some ⟨b, 0, none⟩)) (D4.quiet (by decide) (by decide) (by decide)) (by first | rfl | simp [Region.wanted, yielded]) (fun f w' hm hw' => by go_simp) ?_; go_simp; (with_reducible apply hK); clear hK K)
          (refine many_step (fun K hK => ?_); refine many_quietK (.pointer (some ⟨b, 0, none⟩)) (D4.quiet (by decide) (by decide) (by decide)) (by first | rfl | simp [Region.wanted, yielded]) (fun f w' hm hw' => by go_simp) ?_; go_simp; (with_reducible apply hK); clear hK K)
          (refine many_step (fun K hK => ?_); refine many_quietK (.pointer (some ⟨b, 0, none⟩)) (D4.quiet (by decide) (by decide) (by decide)) (by first | rfl | simp [Region.wanted, yielded]) (fun f w' hm hw' => by go_simp) ?_; go_simp; (with_reducible apply hK); clear hK K)
          (refine many_step (fun K hK => ?_); refine many_quietK (.slice (some ⟨gn, on, none⟩) n cn) (D4.quiet (by decide) (by decide) (by decide)) (by first | rfl | simp [Region.wanted, yielded]) (fun f w' hm hw' => by have h := FB hw'; go_simp; try simp [h]) ?_; go_simp; (with_reducible apply hK); clear hK K)
          (refine many_step (fun K hK => ?_); refine many_quietK (.int .i64 i) (D4.quiet (by decide) (by decide) (by decide)) (by first | rfl | simp [Region.wanted, yielded]) (fun f w' hm hw' => by go_simp) ?_; go_simp; (with_reducible apply hK); clear hK K)
          (refine many_step (fun K hK => ?_); refine many_quietK (.pointer (some ⟨gn, on + i, none⟩)) (D4.quiet (by decide) (by decide) (by decide)) (by first | rfl | simp [Region.wanted, yielded]) (fun f w' hm hw' => by go_simp) ?_; go_simp; (with_reducible apply hK); clear hK K)
          (refine many_step (fun K hK => ?_); refine many_quietK (.string nm) (D4.quiet (by decide) (by decide) (by decide)) (by first | rfl | simp [Region.wanted, yielded]) (fun f w' hm hw' => by have h := FN hw'; go_simp; try simp [h]) ?_; go_simp; (with_reducible apply hK); clear hK K)
          (refine many_step (fun K hK => ?_); refine many_writeK (.slice (some ⟨wr.heap.size, 0, none⟩) 1 1) (by first | rfl | simp [Region.wanted, yielded]) (fun f w' hm hw' => by
            obtain ⟨rfl, e1, e2⟩ := D4.at0 (by have h := hw'; rw [hm.1] at h; exact h)
            go_simp
            refine ⟨?_, rfl⟩
            show D4 _ _ _ _ (more f 10 10) (more f 10 11) (more f 10 13) _
            rw [more_eq, more_ne (by decide), more_ne (by decide), e1, e2]
            exact rfl) ?_; go_simp; (with_reducible apply hK); clear hK K)
          (refine many_step (fun K hK => ?_); refine many_writeK (v2) (by first | rfl | simp [Region.wanted, yielded]) (fun f w' hm hw' => by
            have e10 : f 10 = true := may_dep hm (by kernel_rfl)
            obtain ⟨rfl, e2⟩ := D4.at1 (by have h := hw'; rw [e10, hm.1] at h; exact h)
            have hr := HRUN.out
            rw [← HV2.out] at hr
            refine (?_ : ∀ r : Result Next, r = Result.ok (Next.value v2) W2 → upon2 _ _ v2 r) _ ?_
            · rintro _ rfl
              refine ⟨?_, rfl⟩
              show D4 _ _ _ _ (more f 11 10) (more f 11 11) (more f 11 13) _
              rw [more_eq, more_ne (by decide), more_ne (by decide), e10, e2]
              exact rfl
            · rw [hvh] at hr
              simp [execOp, resolve, invoke, builtin, Act.eval, hr, Result.andThen]) ?_; go_simp; (with_reducible apply hK); clear hK K)
          (refine many_step (fun K hK => ?_); refine many_quietK (.pointer (some ⟨w.heap.size + 1, 5, none⟩)) (D4.quiet (by decide) (by decide) (by decide)) (by first | rfl | simp [Region.wanted, yielded]) (fun f w' hm hw' => by go_simp) ?_; go_simp; (with_reducible apply hK); clear hK K)
          (refine many_step (fun K hK => ?_); refine many_writeK (undef) (by first | rfl | simp [Region.wanted, yielded]) (fun f w' hm hw' => by
            have e11 : f 11 = true := may_dep hm (by kernel_rfl)
            obtain ⟨hwe, e10⟩ := D4.at2 (by have h := hw'; rw [e11, hm.1] at h; exact h)
            rw [hwe]
            refine (?_ : ∀ r : Result Next, r = Result.ok Next.skip (W2.setCell ⟨w.heap.size + 1, 5, none⟩ v2) → upon2 _ _ undef r) _ ?_
            · rintro _ rfl
              refine ⟨?_, rfl⟩
              show D4 _ _ _ _ (more f 13 10) (more f 13 11) (more f 13 13) _
              rw [more_eq, more_ne (by decide), more_ne (by decide), e10, e11]
              exact rfl
            · rw [HV2.out]
              go_simp) ?_; go_simp; (with_reducible apply hK); clear hK K)
          refine wpMany_nil ?_
          intro w3 hw3
          obtain rfl : w3 = W2.setCell ⟨w.heap.size + 1, 5, none⟩ v2 := hw3
          have R3 : Hid (VR w s (W2.setCell ⟨w.heap.size + 1, 5, none⟩ v2) (i + 1) v2) := by
            have e : s.heldN (i + 1) = s.heldN i ++ [nm] := by
              show (if s.wants.getD i 0 = 1 then _ else _) = _
              rw [if_pos (by rw [← HX.out]; exact HX1.out), ← HNM.out]
            have hg' : w.heap.size + 2 ≤ g' := by
              rcases hg2 with h | h
              · exact R.out.new g' h
              · have : (wr.drew.alloc (.cells #[.string nm] 9)).heap.size = wr.heap.size + 1 := by simp
                omega
            have hvb2 : vblk v2 = some g' := by rw [HV2.out]; exact hv2
            have hkv : Keeps (fun k => k = w.heap.size + 1) W2 (W2.setCell ⟨w.heap.size + 1, 5, none⟩ v2) := (Keeps.refl _ W2).set _ 5 _ (fun _ => rfl)
            have hs3 : Sg W2 1 v2 (s.heldN (i + 1)).length (svals (s.heldN (i + 1))) := by
              rw [e, HV2.out]; simpa [svals] using hs2
            exact { br := br2.far (by omega) 5 _, bv := bv2.set 5 v2, sg := hs3.keeps hkv (fun g hg e => by rw [hvb2] at hg; simp at hg; omega)
                    bel := ((R.out.bel.trans (al.mono R.out.bel.size)).trans (hk2.below (Nat.le_trans R.out.bel.size al.size) (fun k hk e => nb k (by omega) e))).setCell (p := ⟨w.heap.size + 1, 5, none⟩) (by show w.heap.size ≤ w.heap.size + 1; omega) _
                    new := fun g hg => by rw [hvb2] at hg; simp at hg; omega }
          clear hs2 hv2 hg2 hk2 bv2 br2 bv1 br1 k1 cb1 cb2 cb3 FB FV FN v5 fv5 c0
          go_wp2_with fail
          go_roundw
          case rel => exact ⟨i + 1, by go_num, by omega, _, R3.out⟩
          case measure => simp [intOf]; omega
        · have g1 : ((x : Int) == 1) = false := by simp; omega
          have R2 : Hid (VR w s wr (i + 1) vh) := by
            have e : s.heldN (i + 1) = s.heldN i := by
              show (if s.wants.getD i 0 = 1 then _ else _) = _
              rw [if_neg (by rw [← HX.out]; exact hx1)]
            exact { R.out with sg := by rw [e]; exact R.out.sg }
          clear hx1
          go_wp2_with fail
          go_roundw
          case rel => exact ⟨i + 1, by go_num, by omega, _, R2.out⟩
          case measure => simp [intOf]; omega
      · obtain rfl : i = n := by omega
        have HR : Hid (VR w s wr i vh) := R.out
        subst hvh
        have v0 := HR.out.bv.cell 0 _ rfl
        have v1 := HR.out.bv.cell 1 _ rfl
        have v2 := HR.out.bv.cell 2 _ rfl
        have v3 := HR.out.bv.cell 3 _ rfl
        have v4 := HR.out.bv.cell 4 _ rfl
        have v5 := HR.out.bv.cell 5 _ rfl
        have r0 := HR.out.br.cell 0 _ rfl
        have r1 := HR.out.br.cell 1 _ rfl
        have r2 := HR.out.br.cell 2 _ rfl
        have r3 := HR.out.br.cell 3 _ rfl
        have r4 := HR.out.br.cell 4 _ rfl
        have r5 := HR.out.br.cell 5 _ rfl
        have e0 := HR.out.br.free 0
        have e1 := HR.out.br.free 1
        have e2 := HR.out.br.free 2
        have e3 := HR.out.br.free 3
        have e4 := HR.out.br.free 4
        have e5 := HR.out.br.free 5
        go_wp2_with fail
        have HBR := (((((HR.out.br.set 0 (.int .i64 s.state)).set 1 (.int .i64 s.clock)).set 2 (.int .i64 s.dueV)).set 3 (.int .i64 s.fails)).set 4 (.int .i64 s.asked.length)).set 5 (.slice ah (s.heldN i).length ch)
        have hB := (((((below_set' HR.out.bel w.heap.size 0 (.int .i64 s.state) (Nat.le_refl _)) |> (below_set' · w.heap.size 1 (.int .i64 s.clock) (Nat.le_refl _))) |> (below_set' · w.heap.size 2 (.int .i64 s.dueV) (Nat.le_refl _))) |> (below_set' · w.heap.size 3 (.int .i64 s.fails) (Nat.le_refl _))) |> (below_set' · w.heap.size 4 (.int .i64 s.asked.length) (Nat.le_refl _))) |> (below_set' · w.heap.size 5 (.slice ah (s.heldN i).length ch) (Nat.le_refl _))
        have hne : ∀ g, vblk (.slice ah (s.heldN i).length ch) = some g → g ≠ w.heap.size := fun g hg e => by have := HR.out.new g hg; omega
        have hkk : ∀ (w1 : World) (o : Nat) (v : Value), Sg w1 1 (.slice ah (s.heldN i).length ch) (s.heldN i).length (svals (s.heldN i)) → Sg (w1.setCell ⟨w.heap.size, o, none⟩ v) 1 (.slice ah (s.heldN i).length ch) (s.heldN i).length (svals (s.heldN i)) := fun w1 o v h =>
          h.keeps ((Keeps.refl (fun k => k = w.heap.size) w1).set w.heap.size o v (fun _ => rfl)) hne
        refine ret_stru rfl HBR Try.underlying47 vars_size rfl rfl ⟨_, rfl, ?_, fun g h => by have := HR.out.new g h; omega, hB⟩
        have e : s.held = s.heldN i := by show s.heldN s.names.length = _; rw [← HN.out]
        rw [e]
        exact hkk _ _ _ (hkk _ _ _ (hkk _ _ _ (hkk _ _ _ (hkk _ _ _ (hkk _ _ _ HR.out.sg)))))
end Go.Proofs.Ytaenfkekdhnakaa
