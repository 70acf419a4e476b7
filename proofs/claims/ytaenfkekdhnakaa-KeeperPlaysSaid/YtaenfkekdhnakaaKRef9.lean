/-
The laws' Is: has a keeper the document's numbers?
-/
import Derived.Test.YtaenfkekdhnakaaKRef8
import Derived.Test.YtaenfkekdhnakaaPlanT
import Derived.Test.YtaenfkekdhnakaaKLaw
namespace Go.Proofs.Ytaenfkekdhnakaa
open Go.RowKit

theorem vone (s : KS) (v : Value) (h : v.oneCell' = true) : ∀ u ∈ vcells s v, u.oneCell' = true := by
  intro u hu
  simp only [vcells, List.mem_cons, List.not_mem_nil, or_false] at hu
  rcases hu with rfl | rfl | rfl | rfl | rfl | rfl <;> first | rfl | exact h
structure IS (w1 wx : World) (s : KS) (bq : Nat) (vh vo : Value) : Prop where
  bel : Below w1.heap.size w1 wx
  v : Blk wx bq 47 (vcells s vh)
  sv : Sg wx 1 vh s.held.length (svals s.held)
  sh : Sg wx 1 vo s.held.length (svals s.held)

set_option maxHeartbeats 4000000 in
set_option maxRecDepth 100000 in
theorem is_ok (F : Nat → Prop) (b : Nat) (s : KS) (vn vi va : Value) (w : World) (hk : KF w F b s) (H : RX w s vn vi va) :
    Calls Try.prog 17 #[.pointer (some ⟨b, 0, none⟩), rv s vn vi va] w fun e w' => e = .returned (.bool true) ∧ Below w.heap.size w w' := by
  obtain ⟨an, cn, rfl⟩ := H.names.shape
  obtain ⟨ai, ci, rfl⟩ := H.wants.shape
  obtain ⟨aa, ca, rfl⟩ := H.asked.shape
  have HX0 := Lib.hid H
  have HK0 := Lib.hid hk
  have HO := Lib.hid hk.ok
  have P0 := And.intro (Blk.new w 31 (kcells s (.slice an s.names.length cn) (.slice ai s.wants.length ci) (.slice aa s.asked.length ca))) (below1 w (.cells (kcells s (.slice an s.names.length cn) (.slice ai s.wants.length ci) (.slice aa s.asked.length ca)).toArray 31))
  unfold rv
  clear H hk
  go_enter Try.func17, Try.ntmps17
  go_upto_region 1 with fail
  refine wp_gen (fun wx => Blk wx w.heap.size 31 (kcells s (.slice an s.names.length cn) (.slice ai s.wants.length ci) (.slice aa s.asked.length ca)) ∧ Below w.heap.size w wx) P0 ?_
  clear P0
  rintro w1 ⟨o1, b1⟩
  have O1 := Lib.hid o1
  have HK := Lib.hid (HK0.out.below b1)
  have HX := Lib.hid (HX0.out.below b1)
  have BB1 := Lib.hid b1
  clear o1 b1
  go_cut [5, 6] (fun v5 v6 wx => ∃ bq vh vo, v5 = .pointer (some ⟨bq, 0, none⟩) ∧ v6 = vo ∧ IS w1 wx s bq vh vo)
  case first =>
    refine Pl.wp_region_tree (fun _ => False) (.head 0 (.head 2 (.fork 1 (.fork 3 (.sole 4 (.sole 5 (.sole 6 .done))) 4 (.sole 3 (.sole 5 (.sole 6 .done)))) 4 (.sole 1 (.sole 3 (.sole 5 (.sole 6 .done))))))) (by kernel_rfl) (by kernel_rfl) ?_
    (refine Pl.tree_head (i := 0) rfl (fun K hK => ?_); refine Pl.plan_plain (.pointer (some ⟨b, 0, none⟩)) (by first | rfl | simp [Region.wanted, yielded]) (fun w' hw' => by go_simp) ?_; go_simp; (with_reducible apply hK); clear hK K)
    (refine Pl.tree_head (i := 2) rfl (fun K hK => ?_); refine Pl.plan_load (fun w' hw' => hw'.blk (show Blk w1.drew _ _ _ from O1.out) (fun h => h)) Try.underlying31 rfl keeper_size' rfl (by first | rfl | simp [Region.wanted, yielded]) rfl (by go_simp) ?_; go_simp; (with_reducible apply hK); clear hK K)
    have BB : Hid (Below w1.heap.size w1 w1.drew) := Lib.hid (below_drewN (Below.refl _ _) 1)
    have KK : Hid (Keeps (fun _ => False) w1.drew w1.drew) := Lib.hid (Keeps.refl _ _)
    refine Pl.tree_fork rfl rfl (fun wa2 ha2 Q2 hQ2 => ?_) (fun wa2 ha2 Q2 hQ2 => ?_)
    · have BB := Lib.hid (BB.out.trans (ha2.mono BB.out.size))
      have KK := Lib.hid (KK.out.rw ha2)
      clear ha2
      go_wp2_with fail
      refine (varsF F b s wa2 (HK.out.below BB.out)).mono ?_
      rintro e wb2 ⟨vh, rfl, hvh, nvh, hb⟩
      have SV := Lib.hid hvh
      clear hvh
      have BB := Lib.hid (BB.out.trans (hb.mono BB.out.size))
      have KK := Lib.hid (KK.out.rw hb)
      clear hb
      go_wp2_with fail
      refine hQ2 _ _ KK.out ?_
      clear hQ2 Q2
      refine Pl.tree_fork rfl rfl (fun wa3 ha3 Q3 hQ3 => ?_) (fun wa3 ha3 Q3 hQ3 => ?_)
      · have BB := Lib.hid (BB.out.trans (ha3.mono BB.out.size))
        have KK := Lib.hid (KK.out.rw ha3)
        have SV := Lib.hid (SV.out.below ha3)
        clear ha3
        have rx := (HX.out.below BB.out)
        go_wp2_with fail
        refine ((rheld_ok s (.slice an s.names.length cn) (.slice ai s.wants.length ci) (.slice aa s.asked.length ca) wa3 rx HO.out)).mono ?_
        rintro e wb3 ⟨vo, rfl, hvo, nvo, hb⟩
        have SH := Lib.hid hvo
        clear hvo rx
        have BB := Lib.hid (BB.out.trans (hb.mono BB.out.size))
        have KK := Lib.hid (KK.out.rw hb)
        have SV := Lib.hid (SV.out.below hb)
        clear hb
        go_wp2_with fail
        refine hQ3 _ _ KK.out ?_
        clear hQ3 Q3
        refine Pl.tree_sole (i := 4) rfl (fun wa4 ha4 Q4 hQ4 => ?_)
        have BB := Lib.hid (BB.out.trans (ha4.mono BB.out.size))
        have KK := Lib.hid (KK.out.rw ha4)
        have SV := Lib.hid (SV.out.below ha4)
        have SH := Lib.hid (SH.out.below ha4)
        clear ha4
        have hb := below1 wa4 (.cells vzero.toArray 47)
        have BV := Lib.hid (Blk.new wa4 47 vzero)
        have HBQ : Hid (w1.heap.size ≤ wa4.heap.size) := Lib.hid BB.out.size
        obtain ⟨bq, hbq⟩ : ∃ q, q = wa4.heap.size := ⟨_, rfl⟩
        rw [← hbq] at BV HBQ
        have NV : ∀ g, vblk vh = some g → g ≠ bq := fun g hg => by have := SV.out.lt hg; omega
        have NH : ∀ g, vblk vo = some g → g ≠ bq := fun g hg => by have := SH.out.lt hg; omega
        have BB := Lib.hid (BB.out.trans (hb.mono BB.out.size))
        have KK := Lib.hid (KK.out.rw hb)
        have SV := Lib.hid (SV.out.below hb)
        have SH := Lib.hid (SH.out.below hb)
        clear hb
        go_wp2_with fail
        rw [← hbq]
        clear hbq
        refine hQ4 _ _ KK.out ?_
        clear hQ4 Q4
        refine Pl.tree_sole (i := 5) rfl (fun wa5 ha5 Q5 hQ5 => ?_)
        have BB := Lib.hid (BB.out.trans (ha5.mono BB.out.size))
        have KK := Lib.hid (KK.out.rw ha5)
        have SV := Lib.hid (SV.out.below ha5)
        have SH := Lib.hid (SH.out.below ha5)
        have BV := Lib.hid (BV.out.below ha5 BV.out.lt)
        clear ha5
        obtain ⟨ah, ch, rfl⟩ := SV.out.shape
        have R5 := Lib.hid (BV.out.setRow (vcells s (.slice ah s.held.length ch)))
        have kr := Keeps.row wa5 bq (vcells s (.slice ah s.held.length ch)).toArray
        have oneV : ∀ v ∈ vcells s (.slice ah s.held.length ch), v.oneCell' = true := vone s _ rfl
        have KK := Lib.hid (KK.out.trans kr (fun k hk e => by have := HBQ.out; subst e; exact absurd hk (by show ¬ _ < w1.heap.size; omega)))
        have hb := below_row BB.out bq (vcells s (.slice ah s.held.length ch)).toArray HBQ.out
        have BB := Lib.hid hb
        have SV := Lib.hid (SV.out.keeps kr (fun g hg e => NV g hg e))
        have SH := Lib.hid (SH.out.keeps kr (fun g hg e => NH g hg e))
        have BV' := BV
        clear BV kr hb
        have BV := R5
        go_wp2_with (first | refine store_blk BV'.out vars_size rfl rfl oneV rfl rfl rfl rfl ?_)
        clear BV'
        refine hQ5 _ _ KK.out ?_
        clear hQ5 Q5
        refine Pl.tree_sole (i := 6) rfl (fun wa6 ha6 Q6 hQ6 => ?_)
        have BB := Lib.hid (BB.out.trans (ha6.mono BB.out.size))
        have KK := Lib.hid (KK.out.rw ha6)
        have SV := Lib.hid (SV.out.below ha6)
        have SH := Lib.hid (SH.out.below ha6)
        have BV := Lib.hid (BV.out.below ha6 BV.out.lt)
        clear ha6
        go_wp2_with fail
        refine hQ6 _ _ KK.out ?_
        clear hQ6 Q6
        refine Pl.tree_done (fun wz hz => ?_)
        have BB := Lib.hid (BB.out.trans (hz.mono BB.out.size))
        have SV := Lib.hid (SV.out.below hz)
        have SH := Lib.hid (SH.out.below hz)
        have BV := Lib.hid (BV.out.below hz BV.out.lt)
        clear hz
        go_wp2_with fail
        go_meet
        exact ⟨bq, _, _, rfl, rfl, ⟨BB.out, BV.out, SV.out, SH.out⟩⟩
      · have BB := Lib.hid (BB.out.trans (ha3.mono BB.out.size))
        have KK := Lib.hid (KK.out.rw ha3)
        have SV := Lib.hid (SV.out.below ha3)
        clear ha3
        have hb := below1 wa3 (.cells vzero.toArray 47)
        have BV := Lib.hid (Blk.new wa3 47 vzero)
        have HBQ : Hid (w1.heap.size ≤ wa3.heap.size) := Lib.hid BB.out.size
        obtain ⟨bq, hbq⟩ : ∃ q, q = wa3.heap.size := ⟨_, rfl⟩
        rw [← hbq] at BV HBQ
        have NV : ∀ g, vblk vh = some g → g ≠ bq := fun g hg => by have := SV.out.lt hg; omega
        have BB := Lib.hid (BB.out.trans (hb.mono BB.out.size))
        have KK := Lib.hid (KK.out.rw hb)
        have SV := Lib.hid (SV.out.below hb)
        clear hb
        go_wp2_with fail
        rw [← hbq]
        clear hbq
        refine hQ3 _ _ KK.out ?_
        clear hQ3 Q3
        refine Pl.tree_sole (i := 3) rfl (fun wa4 ha4 Q4 hQ4 => ?_)
        have BB := Lib.hid (BB.out.trans (ha4.mono BB.out.size))
        have KK := Lib.hid (KK.out.rw ha4)
        have SV := Lib.hid (SV.out.below ha4)
        have BV := Lib.hid (BV.out.below ha4 BV.out.lt)
        clear ha4
        have rx := (HX.out.below BB.out)
        go_wp2_with fail
        refine ((rheld_ok s (.slice an s.names.length cn) (.slice ai s.wants.length ci) (.slice aa s.asked.length ca) wa4 rx HO.out)).mono ?_
        rintro e wb4 ⟨vo, rfl, hvo, nvo, hb⟩
        have NH : ∀ g, vblk vo = some g → g ≠ bq := fun g hg => by have := nvo g hg; have := BV.out.lt; omega
        have SH := Lib.hid hvo
        clear hvo rx
        have BB := Lib.hid (BB.out.trans (hb.mono BB.out.size))
        have KK := Lib.hid (KK.out.rw hb)
        have SV := Lib.hid (SV.out.below hb)
        have BV := Lib.hid (BV.out.below hb BV.out.lt)
        clear hb
        go_wp2_with fail
        refine hQ4 _ _ KK.out ?_
        clear hQ4 Q4
        refine Pl.tree_sole (i := 5) rfl (fun wa5 ha5 Q5 hQ5 => ?_)
        have BB := Lib.hid (BB.out.trans (ha5.mono BB.out.size))
        have KK := Lib.hid (KK.out.rw ha5)
        have SV := Lib.hid (SV.out.below ha5)
        have SH := Lib.hid (SH.out.below ha5)
        have BV := Lib.hid (BV.out.below ha5 BV.out.lt)
        clear ha5
        obtain ⟨ah, ch, rfl⟩ := SV.out.shape
        have R5 := Lib.hid (BV.out.setRow (vcells s (.slice ah s.held.length ch)))
        have kr := Keeps.row wa5 bq (vcells s (.slice ah s.held.length ch)).toArray
        have oneV : ∀ v ∈ vcells s (.slice ah s.held.length ch), v.oneCell' = true := vone s _ rfl
        have KK := Lib.hid (KK.out.trans kr (fun k hk e => by have := HBQ.out; subst e; exact absurd hk (by show ¬ _ < w1.heap.size; omega)))
        have hb := below_row BB.out bq (vcells s (.slice ah s.held.length ch)).toArray HBQ.out
        have BB := Lib.hid hb
        have SV := Lib.hid (SV.out.keeps kr (fun g hg e => NV g hg e))
        have SH := Lib.hid (SH.out.keeps kr (fun g hg e => NH g hg e))
        have BV' := BV
        clear BV kr hb
        have BV := R5
        go_wp2_with (first | refine store_blk BV'.out vars_size rfl rfl oneV rfl rfl rfl rfl ?_)
        clear BV'
        refine hQ5 _ _ KK.out ?_
        clear hQ5 Q5
        refine Pl.tree_sole (i := 6) rfl (fun wa6 ha6 Q6 hQ6 => ?_)
        have BB := Lib.hid (BB.out.trans (ha6.mono BB.out.size))
        have KK := Lib.hid (KK.out.rw ha6)
        have SV := Lib.hid (SV.out.below ha6)
        have SH := Lib.hid (SH.out.below ha6)
        have BV := Lib.hid (BV.out.below ha6 BV.out.lt)
        clear ha6
        go_wp2_with fail
        refine hQ6 _ _ KK.out ?_
        clear hQ6 Q6
        refine Pl.tree_done (fun wz hz => ?_)
        have BB := Lib.hid (BB.out.trans (hz.mono BB.out.size))
        have SV := Lib.hid (SV.out.below hz)
        have SH := Lib.hid (SH.out.below hz)
        have BV := Lib.hid (BV.out.below hz BV.out.lt)
        clear hz
        go_wp2_with fail
        go_meet
        exact ⟨bq, _, _, rfl, rfl, ⟨BB.out, BV.out, SV.out, SH.out⟩⟩
    · have BB := Lib.hid (BB.out.trans (ha2.mono BB.out.size))
      have KK := Lib.hid (KK.out.rw ha2)
      clear ha2
      have hb := below1 wa2 (.cells vzero.toArray 47)
      have BV := Lib.hid (Blk.new wa2 47 vzero)
      have HBQ : Hid (w1.heap.size ≤ wa2.heap.size) := Lib.hid BB.out.size
      obtain ⟨bq, hbq⟩ : ∃ q, q = wa2.heap.size := ⟨_, rfl⟩
      rw [← hbq] at BV HBQ
      have BB := Lib.hid (BB.out.trans (hb.mono BB.out.size))
      have KK := Lib.hid (KK.out.rw hb)
      clear hb
      go_wp2_with fail
      rw [← hbq]
      clear hbq
      refine hQ2 _ _ KK.out ?_
      clear hQ2 Q2
      refine Pl.tree_sole (i := 1) rfl (fun wa3 ha3 Q3 hQ3 => ?_)
      have BB := Lib.hid (BB.out.trans (ha3.mono BB.out.size))
      have KK := Lib.hid (KK.out.rw ha3)
      have BV := Lib.hid (BV.out.below ha3 BV.out.lt)
      clear ha3
      go_wp2_with fail
      refine (varsF F b s wa3 (HK.out.below BB.out)).mono ?_
      rintro e wb3 ⟨vh, rfl, hvh, nvh, hb⟩
      have NV : ∀ g, vblk vh = some g → g ≠ bq := fun g hg => by have := nvh g hg; have := BV.out.lt; omega
      have SV := Lib.hid hvh
      clear hvh
      have BB := Lib.hid (BB.out.trans (hb.mono BB.out.size))
      have KK := Lib.hid (KK.out.rw hb)
      have BV := Lib.hid (BV.out.below hb BV.out.lt)
      clear hb
      go_wp2_with fail
      refine hQ3 _ _ KK.out ?_
      clear hQ3 Q3
      refine Pl.tree_sole (i := 3) rfl (fun wa4 ha4 Q4 hQ4 => ?_)
      have BB := Lib.hid (BB.out.trans (ha4.mono BB.out.size))
      have KK := Lib.hid (KK.out.rw ha4)
      have SV := Lib.hid (SV.out.below ha4)
      have BV := Lib.hid (BV.out.below ha4 BV.out.lt)
      clear ha4
      have rx := (HX.out.below BB.out)
      go_wp2_with fail
      refine ((rheld_ok s (.slice an s.names.length cn) (.slice ai s.wants.length ci) (.slice aa s.asked.length ca) wa4 rx HO.out)).mono ?_
      rintro e wb4 ⟨vo, rfl, hvo, nvo, hb⟩
      have NH : ∀ g, vblk vo = some g → g ≠ bq := fun g hg => by have := nvo g hg; have := BV.out.lt; omega
      have SH := Lib.hid hvo
      clear hvo rx
      have BB := Lib.hid (BB.out.trans (hb.mono BB.out.size))
      have KK := Lib.hid (KK.out.rw hb)
      have SV := Lib.hid (SV.out.below hb)
      have BV := Lib.hid (BV.out.below hb BV.out.lt)
      clear hb
      go_wp2_with fail
      refine hQ4 _ _ KK.out ?_
      clear hQ4 Q4
      refine Pl.tree_sole (i := 5) rfl (fun wa5 ha5 Q5 hQ5 => ?_)
      have BB := Lib.hid (BB.out.trans (ha5.mono BB.out.size))
      have KK := Lib.hid (KK.out.rw ha5)
      have SV := Lib.hid (SV.out.below ha5)
      have SH := Lib.hid (SH.out.below ha5)
      have BV := Lib.hid (BV.out.below ha5 BV.out.lt)
      clear ha5
      obtain ⟨ah, ch, rfl⟩ := SV.out.shape
      have R5 := Lib.hid (BV.out.setRow (vcells s (.slice ah s.held.length ch)))
      have kr := Keeps.row wa5 bq (vcells s (.slice ah s.held.length ch)).toArray
      have oneV : ∀ v ∈ vcells s (.slice ah s.held.length ch), v.oneCell' = true := vone s _ rfl
      have KK := Lib.hid (KK.out.trans kr (fun k hk e => by have := HBQ.out; subst e; exact absurd hk (by show ¬ _ < w1.heap.size; omega)))
      have hb := below_row BB.out bq (vcells s (.slice ah s.held.length ch)).toArray HBQ.out
      have BB := Lib.hid hb
      have SV := Lib.hid (SV.out.keeps kr (fun g hg e => NV g hg e))
      have SH := Lib.hid (SH.out.keeps kr (fun g hg e => NH g hg e))
      have BV' := BV
      clear BV kr hb
      have BV := R5
      go_wp2_with (first | refine store_blk BV'.out vars_size rfl rfl oneV rfl rfl rfl rfl ?_)
      clear BV'
      refine hQ5 _ _ KK.out ?_
      clear hQ5 Q5
      refine Pl.tree_sole (i := 6) rfl (fun wa6 ha6 Q6 hQ6 => ?_)
      have BB := Lib.hid (BB.out.trans (ha6.mono BB.out.size))
      have KK := Lib.hid (KK.out.rw ha6)
      have SV := Lib.hid (SV.out.below ha6)
      have SH := Lib.hid (SH.out.below ha6)
      have BV := Lib.hid (BV.out.below ha6 BV.out.lt)
      clear ha6
      go_wp2_with fail
      refine hQ6 _ _ KK.out ?_
      clear hQ6 Q6
      refine Pl.tree_done (fun wz hz => ?_)
      have BB := Lib.hid (BB.out.trans (hz.mono BB.out.size))
      have SV := Lib.hid (SV.out.below hz)
      have SH := Lib.hid (SH.out.below hz)
      have BV := Lib.hid (BV.out.below hz BV.out.lt)
      clear hz
      go_wp2_with fail
      go_meet
      exact ⟨bq, _, _, rfl, rfl, ⟨BB.out, BV.out, SV.out, SH.out⟩⟩
  case rest =>
  obtain ⟨bq, vh, vo, rfl, rfl, I⟩ := hcut
  obtain ⟨ah, ch, rfl⟩ := I.sv.shape
  obtain ⟨ao, co, rfl⟩ := I.sh.shape
  have o2 := O1.out.below I.bel O1.out.lt
  have c4 := o2.cell 4 _ rfl
  have c5 := o2.cell 5 _ rfl
  have c7 := o2.cell 7 _ rfl
  have c8 := o2.cell 8 _ rfl
  have c10 := o2.cell 10 _ rfl
  have v0 := I.v.cell 0 _ rfl
  have v1 := I.v.cell 1 _ rfl
  have v2 := I.v.cell 2 _ rfl
  have v3 := I.v.cell 3 _ rfl
  have v4 := I.v.cell 4 _ rfl
  have v5 := I.v.cell 5 _ rfl
  have BW := Lib.hid (BB1.out.trans (I.bel.mono BB1.out.size))
  obtain ⟨m, hm⟩ : ∃ m, m = s.held.length := ⟨_, rfl⟩
  have hm16 : m ≤ 16 := by rw [hm]; exact Nat.le_trans (heldN_len s _) HO.out.few
  have II := Lib.hid I
  have HM := Lib.hid hm
  rw [← hm] at v5 ⊢
  have hdv : (s.state = 0 ∧ s.dueV = s.due) ∨ (((s.state : Int) == 0) = false ∧ s.dueV = 0) := by
    unfold KS.dueV
    by_cases h : s.state = 0
    · exact .inl ⟨h, if_pos h⟩
    · exact .inr ⟨by simp; omega, if_neg h⟩
  clear o2 I hm HK HX HX0 HK0 O1 BB1
  rcases hdv with ⟨q1, q2⟩ | ⟨q1, q2⟩
  all_goals
    rw [q2] at v2
    (first | (rw [q1] at c4 v0; clear q1) | skip)
    clear q2
    go_wp2_with fail
    go_loopw [61] (fun vi wr => ∃ i k : Nat, vi = .int .i64 i ∧ i ≤ m ∧ wc.drewN k = wr) (fun vi _ => m - (intOf vi).toNat)
    case atStart => exact ⟨0, 0, rfl, by omega, rfl⟩
    case round =>
      obtain ⟨i, k, rfl, hi, rfl⟩ := hrel
      by_cases hgo : i < m
      · have sv := II.out.sv
        have sh := II.out.sh
        rw [← HM.out] at sv sh
        obtain ⟨g1, o1, c1', h1, h1a, h1b, -, -, -, -⟩ := sv.open (by omega)
        obtain ⟨g2, o2, c2', h2, h2a, h2b, -, -, -, -⟩ := sh.open (by omega)
        simp only [Value.slice.injEq, true_and] at h1 h2
        obtain ⟨rfl, rfl⟩ := h1
        obtain ⟨rfl, rfl⟩ := h2
        have x1 := (sv.cellAt i hgo).1.trans (svals_get _ _ (by rw [← HM.out]; exact hgo))
        have x2 := (sh.cellAt i hgo).1.trans (svals_get _ _ (by rw [← HM.out]; exact hgo))
        unfold maxLen at h1b h2b
        clear sv sh
        go_wp2_with fail
        go_quiet (fail)
        go_wp2_with fail
        go_roundw
        case rel => exact ⟨i + 1, _, by go_num, by omega, rfl⟩
        case measure => simp [intOf]; omega
      · obtain rfl : i = m := by omega
        go_wp2_with fail
        go_ret
        exact ⟨rfl, below_drewN BW.out k⟩
end Go.Proofs.Ytaenfkekdhnakaa
