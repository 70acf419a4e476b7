/-
KeeperPlays, walked.
-/
import Derived.Test.YtaenfkekdhnakaaKPlays0
namespace Go.Proofs.Ytaenfkekdhnakaa
open Go.RowKit

set_option maxHeartbeats 4000000 in
set_option maxRecDepth 100000 in
theorem plays_ok (ns : List ByteArray) (ao : Option Addr) (n cap : Nat) (f m bt : Int) (zo : Option Addr) (len zcap : Nat) (zs : List Int) (w : World) (hs : StrAt w ao n ns) (hn : n ≤ 9223372036854775807) (hz : IntAt w zo len zs) (hlen : len ≤ 9223372036854775807) :
    Calls Try.prog 3 #[.agg #[.slice ao n cap, .int .i64 f, .int .i64 m, .int .i64 bt], .slice zo len zcap] w fun e w' => e = .returned (.bool true) ∧ Below w.heap.size w w' := by
  have HS := Lib.hid hs
  have HZ := Lib.hid hz
  have B0 := Lib.hid (Blk.new w 24 [.slice ao n cap, .int .i64 f, .int .i64 m, .int .i64 bt])
  have BB0 := below1 w (.cells #[.slice ao n cap, .int .i64 f, .int .i64 m, .int .i64 bt] 24)
  clear hs hz
  go_enter Try.func3, Try.ntmps3
  go_wp2_with fail
  refine (awake_ok _).mono ?_
  rintro e w1 ⟨rfl, b1⟩
  have B1 := Lib.hid (B0.out.below b1 B0.out.lt)
  have BB1 := BB0.trans (b1.mono BB0.size)
  have HS1 := Lib.hid (HS.out.below BB1)
  clear b1 B0 BB0
  go_wp2_with (refine load_blk B1.out Try.underlying24 rfl cfg_len rfl rfl rfl rfl ?_)
  refine (few_ok ns ao n cap f m bt w1 HS1.out hn).mono ?_
  rintro e w2 ⟨al, cl, rfl, sl, nw, b2⟩
  have B2 := Lib.hid (B1.out.below b2 B1.out.lt)
  have HL0 : (fewN ns).length ≤ 18 := by rw [fewN_len]; omega
  have B3 := Lib.hid (B2.out.setRow [.slice al (fewN ns).length cl, .int .i64 f, .int .i64 m, .int .i64 bt])
  have hza := B1.out.lt
  have S3 := Lib.hid (sl.same (w' := w2.setRow w.heap.size ([.slice al (fewN ns).length cl, .int .i64 f, .int .i64 m, .int .i64 bt] : List Value).toArray) (by simp) (fun g hg => setRow_other _ _ _ _ (by have := nw g hg; omega)))
  have BB3 := below_row (BB1.trans (b2.mono BB1.size)) w.heap.size ([.slice al (fewN ns).length cl, .int .i64 f, .int .i64 m, .int .i64 bt] : List Value).toArray (Nat.le_refl _)
  clear b2 sl nw B1 BB1 HS1 HS
  go_upto_region 4 with (refine store_blk B2.out cfg_len rfl rfl (cfg_one _ _ _ _ _ _) rfl rfl rfl rfl ?_)
  refine wp_gen (fun w3 => Hid (Blk w3 w.heap.size 24 [.slice al (fewN ns).length cl, .int .i64 f, .int .i64 m, .int .i64 bt]) ∧ Hid (Sg w3 1 (.slice al (fewN ns).length cl) (fewN ns).length (svals (fewN ns))) ∧ Below w.heap.size w w3) ⟨B3, S3, BB3⟩ ?_
  rintro w3 ⟨C3, SG, E3⟩
  clear B3 S3 BB3 B2 hza
  generalize fewN ns = names at *
  have HL : Hid (names.length ≤ 1000) := Lib.hid (by omega)
  have W0 : Hid (w.heap.size < w3.heap.size ∧ Below w.heap.size w w3) := Lib.hid ⟨C3.out.lt, E3⟩
  have NM : Hid (names = names) := Lib.hid rfl
  clear E3
  simp only [Act.put]
  go_cut [5, 6] (fun v5 v6 wx => ∃ F b bq vn vi, v5 = .pointer (some ⟨b, 0, none⟩) ∧ v6 = .pointer (some ⟨bq, 0, none⟩) ∧ PR w wx F b bq (newS names f m bt) vn vi (.slice none 0 0))
  case first =>
    have c0 := C3.out.cell 0 _ rfl
    have c1 := C3.out.cell 1 _ rfl
    have c2 := C3.out.cell 2 _ rfl
    have c3 := C3.out.cell 3 _ rfl
    refine Pl.wp_region_tree (fun _ => False) (.head 0 (.head 2 (.head 3 (.head 4 (.head 5 (.head 6 (.head 7 (.head 8 (.head 9 (.fork 1 (.fork 10 (.sole 11 (.sole 12 (.sole 13 .done))) 11 (.sole 10 (.sole 12 (.sole 13 .done)))) 11 (.sole 1 (.sole 10 (.sole 12 (.sole 13 .done)))))))))))))) (by kernel_rfl) (by kernel_rfl) ?_
    (refine Pl.tree_head (i := 0) rfl (fun K hK => ?_); refine Pl.plan_load (fun w' hw' => hw'.blk (show Blk w3.drew _ _ _ from C3.out) (fun h => h)) Try.underlying24 rfl cfg_len rfl (by first | rfl | simp [Region.wanted, yielded]) rfl (by go_simp) ?_; go_simp; (with_reducible apply hK); clear hK K)
    (refine Pl.tree_head (i := 2) rfl (fun K hK => ?_); refine Pl.plan_plain (.pointer (some ⟨w.heap.size, 0, none⟩)) (by first | rfl | simp [Region.wanted, yielded]) (fun w' hw' => by go_simp) ?_; go_simp; (with_reducible apply hK); clear hK K)
    (refine Pl.tree_head (i := 3) rfl (fun K hK => ?_); refine Pl.plan_plain (.slice al names.length cl) (by first | rfl | simp [Region.wanted, yielded]) (fun w' hw' => by have h := (hw'.blk (show Blk w3.drew _ _ _ from C3.out) (fun h => h)).cell 0 _ rfl; go_simp; try simp [h]) ?_; go_simp; (with_reducible apply hK); clear hK K)
    (refine Pl.tree_head (i := 4) rfl (fun K hK => ?_); refine Pl.plan_plain (.pointer (some ⟨w.heap.size, 1, none⟩)) (by first | rfl | simp [Region.wanted, yielded]) (fun w' hw' => by go_simp) ?_; go_simp; (with_reducible apply hK); clear hK K)
    (refine Pl.tree_head (i := 5) rfl (fun K hK => ?_); refine Pl.plan_plain (.int .i64 f) (by first | rfl | simp [Region.wanted, yielded]) (fun w' hw' => by have h := (hw'.blk (show Blk w3.drew _ _ _ from C3.out) (fun h => h)).cell 1 _ rfl; go_simp; try simp [h]) ?_; go_simp; (with_reducible apply hK); clear hK K)
    (refine Pl.tree_head (i := 6) rfl (fun K hK => ?_); refine Pl.plan_plain (.pointer (some ⟨w.heap.size, 2, none⟩)) (by first | rfl | simp [Region.wanted, yielded]) (fun w' hw' => by go_simp) ?_; go_simp; (with_reducible apply hK); clear hK K)
    (refine Pl.tree_head (i := 7) rfl (fun K hK => ?_); refine Pl.plan_plain (.int .i64 m) (by first | rfl | simp [Region.wanted, yielded]) (fun w' hw' => by have h := (hw'.blk (show Blk w3.drew _ _ _ from C3.out) (fun h => h)).cell 2 _ rfl; go_simp; try simp [h]) ?_; go_simp; (with_reducible apply hK); clear hK K)
    (refine Pl.tree_head (i := 8) rfl (fun K hK => ?_); refine Pl.plan_plain (.pointer (some ⟨w.heap.size, 3, none⟩)) (by first | rfl | simp [Region.wanted, yielded]) (fun w' hw' => by go_simp) ?_; go_simp; (with_reducible apply hK); clear hK K)
    (refine Pl.tree_head (i := 9) rfl (fun K hK => ?_); refine Pl.plan_plain (.int .i64 bt) (by first | rfl | simp [Region.wanted, yielded]) (fun w' hw' => by have h := (hw'.blk (show Blk w3.drew _ _ _ from C3.out) (fun h => h)).cell 3 _ rfl; go_simp; try simp [h]) ?_; go_simp; (with_reducible apply hK); clear hK K)
    clear c0 c1 c2 c3
    have BB : Hid (Below w3.heap.size w3 w3.drew) := Lib.hid (below_drewN (Below.refl _ _) 1)
    have KK : Hid (Keeps (fun _ => False) w3.drew w3.drew) := Lib.hid (Keeps.refl _ _)
    refine Pl.tree_fork rfl rfl (fun wa2 ha2 Q2 hQ2 => ?_) (fun wa2 ha2 Q2 hQ2 => ?_)
    · have BB := Lib.hid (BB.out.trans (ha2.mono BB.out.size))
      have KK := Lib.hid (KK.out.rw ha2)
      clear ha2
      have sg := SG.out.below BB.out
      go_wp2_with fail
      refine (newF names (.slice al names.length cl) f m bt wa2 sg HL.out).mono ?_
      rintro e wb2 ⟨b, rfl, kf, hb⟩
      obtain ⟨F, hF⟩ : ∃ F : Nat → Prop, F = fun k => wa2.heap.size ≤ k ∧ k < wb2.heap.size := ⟨_, rfl⟩
      rw [← hF] at kf
      have NB : Hid (∀ k, F k → w3.heap.size ≤ k ∧ k < wb2.heap.size) := Lib.hid (fun k hk => by rw [hF] at hk; have := BB.out.size; omega)
      have KN := Lib.hid kf
      clear kf hF sg
      have BB := Lib.hid (BB.out.trans (hb.mono BB.out.size))
      have KK := Lib.hid (KK.out.rw hb)
      clear hb
      go_wp2_with fail
      refine hQ2 _ _ KK.out ?_
      clear hQ2 Q2
      refine Pl.tree_fork rfl rfl (fun wa3 ha3 Q3 hQ3 => ?_) (fun wa3 ha3 Q3 hQ3 => ?_)
      · have BB := Lib.hid (BB.out.trans (ha3.mono BB.out.size))
        have KK := Lib.hid (KK.out.rw ha3)
        have KN := Lib.hid (KN.out.below ha3)
        have NB : Hid (∀ k, F k → w3.heap.size ≤ k ∧ k < _) := Lib.hid (fun k hk => ⟨(NB.out k hk).1, Nat.lt_of_lt_of_le (NB.out k hk).2 ha3.size⟩)
        clear ha3
        have sg := SG.out.below BB.out
        go_wp2_with fail
        refine (rnew_ok names (.slice al names.length cl) f m bt wa3 sg HL.out).mono ?_
        rintro e wb3 ⟨vn, vi, rfl, rx, nn, ni, hb⟩
        have RN := Lib.hid rx
        have RF : Hid (∀ g, vblk vn = some g ∨ vblk vi = some g → w3.heap.size ≤ g ∧ ¬ F g) := Lib.hid (fun g hg => by
            have h1 : wa3.heap.size ≤ g := hg.elim (nn g) (ni g)
            exact ⟨by have := BB.out.size; omega, fun hf => by have := (NB.out g hf).2; omega⟩)
        clear rx nn ni sg
        have BB := Lib.hid (BB.out.trans (hb.mono BB.out.size))
        have KK := Lib.hid (KK.out.rw hb)
        have KN := Lib.hid (KN.out.below hb)
        have NB : Hid (∀ k, F k → w3.heap.size ≤ k ∧ k < _) := Lib.hid (fun k hk => ⟨(NB.out k hk).1, Nat.lt_of_lt_of_le (NB.out k hk).2 hb.size⟩)
        clear hb
        unfold rv
        go_wp2_with fail
        refine hQ3 _ _ KK.out ?_
        clear hQ3 Q3
        refine Pl.tree_sole (i := 11) rfl (fun wa4 ha4 Q4 hQ4 => ?_)
        have BB := Lib.hid (BB.out.trans (ha4.mono BB.out.size))
        have KK := Lib.hid (KK.out.rw ha4)
        have KN := Lib.hid (KN.out.below ha4)
        have NB : Hid (∀ k, F k → w3.heap.size ≤ k ∧ k < _) := Lib.hid (fun k hk => ⟨(NB.out k hk).1, Nat.lt_of_lt_of_le (NB.out k hk).2 ha4.size⟩)
        have RN := Lib.hid (RN.out.below ha4)
        clear ha4
        have hb := below1 wa4 (.cells kzero.toArray 31)
        have BV := Lib.hid (Blk.new wa4 31 kzero)
        have HBQ : Hid (w3.heap.size ≤ wa4.heap.size) := Lib.hid BB.out.size
        obtain ⟨bq, hbq⟩ : ∃ q, q = wa4.heap.size := ⟨_, rfl⟩
        rw [← hbq] at BV HBQ
        have AF : Hid (¬ F bq) := Lib.hid (fun hk => by have := (NB.out _ hk).2; omega)
        have RA : Hid (∀ g, vblk vn = some g ∨ vblk vi = some g → g ≠ bq) := Lib.hid (fun g hg => by
            have h1 : g < wa4.heap.size := hg.elim RN.out.names.lt RN.out.wants.lt
            omega)
        have BB := Lib.hid (BB.out.trans (hb.mono BB.out.size))
        have KK := Lib.hid (KK.out.rw hb)
        have KN := Lib.hid (KN.out.below hb)
        have NB : Hid (∀ k, F k → w3.heap.size ≤ k ∧ k < _) := Lib.hid (fun k hk => ⟨(NB.out k hk).1, Nat.lt_of_lt_of_le (NB.out k hk).2 hb.size⟩)
        have RN := Lib.hid (RN.out.below hb)
        clear hb
        go_wp2_with fail
        rw [← hbq]
        clear hbq
        refine hQ4 _ _ KK.out ?_
        clear hQ4 Q4
        refine Pl.tree_sole (i := 12) rfl (fun wa5 ha5 Q5 hQ5 => ?_)
        have BB := Lib.hid (BB.out.trans (ha5.mono BB.out.size))
        have KK := Lib.hid (KK.out.rw ha5)
        have KN := Lib.hid (KN.out.below ha5)
        have NB : Hid (∀ k, F k → w3.heap.size ≤ k ∧ k < _) := Lib.hid (fun k hk => ⟨(NB.out k hk).1, Nat.lt_of_lt_of_le (NB.out k hk).2 ha5.size⟩)
        have RN := Lib.hid (RN.out.below ha5)
        have BV := Lib.hid (BV.out.below ha5 BV.out.lt)
        clear ha5
        go_wp2_with fail
        refine hQ5 _ _ KK.out ?_
        clear hQ5 Q5
        refine Pl.tree_sole (i := 13) rfl (fun wa6 ha6 Q6 hQ6 => ?_)
        have BB := Lib.hid (BB.out.trans (ha6.mono BB.out.size))
        have KK := Lib.hid (KK.out.rw ha6)
        have KN := Lib.hid (KN.out.below ha6)
        have NB : Hid (∀ k, F k → w3.heap.size ≤ k ∧ k < _) := Lib.hid (fun k hk => ⟨(NB.out k hk).1, Nat.lt_of_lt_of_le (NB.out k hk).2 ha6.size⟩)
        have RN := Lib.hid (RN.out.below ha6)
        have BV := Lib.hid (BV.out.below ha6 BV.out.lt)
        clear ha6
        have R5 := Lib.hid (BV.out.setRow (kcells (newS names f m bt) vn vi (.slice none 0 0)))
        have kr := Keeps.row wa6 bq (kcells (newS names f m bt) vn vi (.slice none 0 0)).toArray
        have oneV : ∀ v ∈ (kcells (newS names f m bt) vn vi (.slice none 0 0)), v.oneCell' = true := kc_any _ _ _ _ (sg_one RN.out.names) (sg_one RN.out.wants) rfl
        have KK := Lib.hid (KK.out.trans kr (fun k hk e => by have := HBQ.out; subst e; exact absurd hk (by show ¬ _ < w3.heap.size; omega)))
        have hb := below_row BB.out bq (kcells (newS names f m bt) vn vi (.slice none 0 0)).toArray HBQ.out
        have BB := Lib.hid hb
        have KN := Lib.hid (KN.out.keeps kr (fun k hF e => AF.out (e ▸ hF)))
        have NB : Hid (∀ k, F k → w3.heap.size ≤ k ∧ k < _) := Lib.hid (fun k hk => ⟨(NB.out k hk).1, Nat.lt_of_lt_of_le (NB.out k hk).2 kr.size⟩)
        have RN := Lib.hid (RN.out.keeps kr (fun g hg e => RA.out g (.inl hg) e) (fun g hg e => RA.out g (.inr hg) e) (fun g hg e => by simp [vblk] at hg))
        have BV' := BV
        clear BV kr hb
        have BV := R5
        go_wp2_with (first | refine store_blk BV'.out keeper_size' rfl rfl oneV rfl rfl rfl rfl ?_)
        clear BV'
        refine hQ6 _ _ KK.out ?_
        clear hQ6 Q6
        refine Pl.tree_done (fun wz hz => ?_)
        have BB := Lib.hid (BB.out.trans (hz.mono BB.out.size))
        have KK := Lib.hid (KK.out.rw hz)
        have KN := Lib.hid (KN.out.below hz)
        have NB : Hid (∀ k, F k → w3.heap.size ≤ k ∧ k < _) := Lib.hid (fun k hk => ⟨(NB.out k hk).1, Nat.lt_of_lt_of_le (NB.out k hk).2 hz.size⟩)
        have RN := Lib.hid (RN.out.below hz)
        have BV := Lib.hid (BV.out.below hz BV.out.lt)
        clear hz
        go_wp2_with fail
        go_meet
        exact ⟨F, b, bq, vn, vi, rfl, rfl, PR.mk' W0.out BB.out KN.out NB.out BV.out HBQ.out AF.out RN.out RF.out RA.out⟩
      · have BB := Lib.hid (BB.out.trans (ha3.mono BB.out.size))
        have KK := Lib.hid (KK.out.rw ha3)
        have KN := Lib.hid (KN.out.below ha3)
        have NB : Hid (∀ k, F k → w3.heap.size ≤ k ∧ k < _) := Lib.hid (fun k hk => ⟨(NB.out k hk).1, Nat.lt_of_lt_of_le (NB.out k hk).2 ha3.size⟩)
        clear ha3
        have hb := below1 wa3 (.cells kzero.toArray 31)
        have BV := Lib.hid (Blk.new wa3 31 kzero)
        have HBQ : Hid (w3.heap.size ≤ wa3.heap.size) := Lib.hid BB.out.size
        obtain ⟨bq, hbq⟩ : ∃ q, q = wa3.heap.size := ⟨_, rfl⟩
        rw [← hbq] at BV HBQ
        have AF : Hid (¬ F bq) := Lib.hid (fun hk => by have := (NB.out _ hk).2; omega)
        have BB := Lib.hid (BB.out.trans (hb.mono BB.out.size))
        have KK := Lib.hid (KK.out.rw hb)
        have KN := Lib.hid (KN.out.below hb)
        have NB : Hid (∀ k, F k → w3.heap.size ≤ k ∧ k < _) := Lib.hid (fun k hk => ⟨(NB.out k hk).1, Nat.lt_of_lt_of_le (NB.out k hk).2 hb.size⟩)
        clear hb
        go_wp2_with fail
        rw [← hbq]
        clear hbq
        refine hQ3 _ _ KK.out ?_
        clear hQ3 Q3
        refine Pl.tree_sole (i := 10) rfl (fun wa4 ha4 Q4 hQ4 => ?_)
        have BB := Lib.hid (BB.out.trans (ha4.mono BB.out.size))
        have KK := Lib.hid (KK.out.rw ha4)
        have KN := Lib.hid (KN.out.below ha4)
        have NB : Hid (∀ k, F k → w3.heap.size ≤ k ∧ k < _) := Lib.hid (fun k hk => ⟨(NB.out k hk).1, Nat.lt_of_lt_of_le (NB.out k hk).2 ha4.size⟩)
        have BV := Lib.hid (BV.out.below ha4 BV.out.lt)
        clear ha4
        have sg := SG.out.below BB.out
        go_wp2_with fail
        refine (rnew_ok names (.slice al names.length cl) f m bt wa4 sg HL.out).mono ?_
        rintro e wb4 ⟨vn, vi, rfl, rx, nn, ni, hb⟩
        have RN := Lib.hid rx
        have RF : Hid (∀ g, vblk vn = some g ∨ vblk vi = some g → w3.heap.size ≤ g ∧ ¬ F g) := Lib.hid (fun g hg => by
            have h1 : wa4.heap.size ≤ g := hg.elim (nn g) (ni g)
            exact ⟨by have := BB.out.size; omega, fun hf => by have := (NB.out g hf).2; omega⟩)
        have RA : Hid (∀ g, vblk vn = some g ∨ vblk vi = some g → g ≠ bq) := Lib.hid (fun g hg => by
            have h1 : wa4.heap.size ≤ g := hg.elim (nn g) (ni g)
            have := BV.out.lt; omega)
        clear rx nn ni sg
        have BB := Lib.hid (BB.out.trans (hb.mono BB.out.size))
        have KK := Lib.hid (KK.out.rw hb)
        have KN := Lib.hid (KN.out.below hb)
        have NB : Hid (∀ k, F k → w3.heap.size ≤ k ∧ k < _) := Lib.hid (fun k hk => ⟨(NB.out k hk).1, Nat.lt_of_lt_of_le (NB.out k hk).2 hb.size⟩)
        have BV := Lib.hid (BV.out.below hb BV.out.lt)
        clear hb
        unfold rv
        go_wp2_with fail
        refine hQ4 _ _ KK.out ?_
        clear hQ4 Q4
        refine Pl.tree_sole (i := 12) rfl (fun wa5 ha5 Q5 hQ5 => ?_)
        have BB := Lib.hid (BB.out.trans (ha5.mono BB.out.size))
        have KK := Lib.hid (KK.out.rw ha5)
        have KN := Lib.hid (KN.out.below ha5)
        have NB : Hid (∀ k, F k → w3.heap.size ≤ k ∧ k < _) := Lib.hid (fun k hk => ⟨(NB.out k hk).1, Nat.lt_of_lt_of_le (NB.out k hk).2 ha5.size⟩)
        have RN := Lib.hid (RN.out.below ha5)
        have BV := Lib.hid (BV.out.below ha5 BV.out.lt)
        clear ha5
        go_wp2_with fail
        refine hQ5 _ _ KK.out ?_
        clear hQ5 Q5
        refine Pl.tree_sole (i := 13) rfl (fun wa6 ha6 Q6 hQ6 => ?_)
        have BB := Lib.hid (BB.out.trans (ha6.mono BB.out.size))
        have KK := Lib.hid (KK.out.rw ha6)
        have KN := Lib.hid (KN.out.below ha6)
        have NB : Hid (∀ k, F k → w3.heap.size ≤ k ∧ k < _) := Lib.hid (fun k hk => ⟨(NB.out k hk).1, Nat.lt_of_lt_of_le (NB.out k hk).2 ha6.size⟩)
        have RN := Lib.hid (RN.out.below ha6)
        have BV := Lib.hid (BV.out.below ha6 BV.out.lt)
        clear ha6
        have R5 := Lib.hid (BV.out.setRow (kcells (newS names f m bt) vn vi (.slice none 0 0)))
        have kr := Keeps.row wa6 bq (kcells (newS names f m bt) vn vi (.slice none 0 0)).toArray
        have oneV : ∀ v ∈ (kcells (newS names f m bt) vn vi (.slice none 0 0)), v.oneCell' = true := kc_any _ _ _ _ (sg_one RN.out.names) (sg_one RN.out.wants) rfl
        have KK := Lib.hid (KK.out.trans kr (fun k hk e => by have := HBQ.out; subst e; exact absurd hk (by show ¬ _ < w3.heap.size; omega)))
        have hb := below_row BB.out bq (kcells (newS names f m bt) vn vi (.slice none 0 0)).toArray HBQ.out
        have BB := Lib.hid hb
        have KN := Lib.hid (KN.out.keeps kr (fun k hF e => AF.out (e ▸ hF)))
        have NB : Hid (∀ k, F k → w3.heap.size ≤ k ∧ k < _) := Lib.hid (fun k hk => ⟨(NB.out k hk).1, Nat.lt_of_lt_of_le (NB.out k hk).2 kr.size⟩)
        have RN := Lib.hid (RN.out.keeps kr (fun g hg e => RA.out g (.inl hg) e) (fun g hg e => RA.out g (.inr hg) e) (fun g hg e => by simp [vblk] at hg))
        have BV' := BV
        clear BV kr hb
        have BV := R5
        go_wp2_with (first | refine store_blk BV'.out keeper_size' rfl rfl oneV rfl rfl rfl rfl ?_)
        clear BV'
        refine hQ6 _ _ KK.out ?_
        clear hQ6 Q6
        refine Pl.tree_done (fun wz hz => ?_)
        have BB := Lib.hid (BB.out.trans (hz.mono BB.out.size))
        have KK := Lib.hid (KK.out.rw hz)
        have KN := Lib.hid (KN.out.below hz)
        have NB : Hid (∀ k, F k → w3.heap.size ≤ k ∧ k < _) := Lib.hid (fun k hk => ⟨(NB.out k hk).1, Nat.lt_of_lt_of_le (NB.out k hk).2 hz.size⟩)
        have RN := Lib.hid (RN.out.below hz)
        have BV := Lib.hid (BV.out.below hz BV.out.lt)
        clear hz
        go_wp2_with fail
        go_meet
        exact ⟨F, b, bq, vn, vi, rfl, rfl, PR.mk' W0.out BB.out KN.out NB.out BV.out HBQ.out AF.out RN.out RF.out RA.out⟩
    · have BB := Lib.hid (BB.out.trans (ha2.mono BB.out.size))
      have KK := Lib.hid (KK.out.rw ha2)
      clear ha2
      have hb := below1 wa2 (.cells kzero.toArray 31)
      have BV := Lib.hid (Blk.new wa2 31 kzero)
      have HBQ : Hid (w3.heap.size ≤ wa2.heap.size) := Lib.hid BB.out.size
      obtain ⟨bq, hbq⟩ : ∃ q, q = wa2.heap.size := ⟨_, rfl⟩
      rw [← hbq] at BV HBQ
      have BB := Lib.hid (BB.out.trans (hb.mono BB.out.size))
      have KK := Lib.hid (KK.out.rw hb)
      clear hb
      go_wp2_with fail
      rw [← hbq]
      clear hbq
      refine hQ2 _ _ KK.out ?_
      clear hQ2 Q2
      refine Pl.tree_sole (i := 1) rfl (fun wa3 ha3 Q3 hQ3 => ?_)
      have BB := Lib.hid (BB.out.trans (ha3.mono BB.out.size))
      have KK := Lib.hid (KK.out.rw ha3)
      have BV := Lib.hid (BV.out.below ha3 BV.out.lt)
      clear ha3
      have sg := SG.out.below BB.out
      go_wp2_with fail
      refine (newF names (.slice al names.length cl) f m bt wa3 sg HL.out).mono ?_
      rintro e wb3 ⟨b, rfl, kf, hb⟩
      obtain ⟨F, hF⟩ : ∃ F : Nat → Prop, F = fun k => wa3.heap.size ≤ k ∧ k < wb3.heap.size := ⟨_, rfl⟩
      rw [← hF] at kf
      have NB : Hid (∀ k, F k → w3.heap.size ≤ k ∧ k < wb3.heap.size) := Lib.hid (fun k hk => by rw [hF] at hk; have := BB.out.size; omega)
      have AF : Hid (¬ F bq) := Lib.hid (fun hk => by rw [hF] at hk; have := BV.out.lt; omega)
      have KN := Lib.hid kf
      clear kf hF sg
      have BB := Lib.hid (BB.out.trans (hb.mono BB.out.size))
      have KK := Lib.hid (KK.out.rw hb)
      have BV := Lib.hid (BV.out.below hb BV.out.lt)
      clear hb
      go_wp2_with fail
      refine hQ3 _ _ KK.out ?_
      clear hQ3 Q3
      refine Pl.tree_sole (i := 10) rfl (fun wa4 ha4 Q4 hQ4 => ?_)
      have BB := Lib.hid (BB.out.trans (ha4.mono BB.out.size))
      have KK := Lib.hid (KK.out.rw ha4)
      have KN := Lib.hid (KN.out.below ha4)
      have NB : Hid (∀ k, F k → w3.heap.size ≤ k ∧ k < _) := Lib.hid (fun k hk => ⟨(NB.out k hk).1, Nat.lt_of_lt_of_le (NB.out k hk).2 ha4.size⟩)
      have BV := Lib.hid (BV.out.below ha4 BV.out.lt)
      clear ha4
      have sg := SG.out.below BB.out
      go_wp2_with fail
      refine (rnew_ok names (.slice al names.length cl) f m bt wa4 sg HL.out).mono ?_
      rintro e wb4 ⟨vn, vi, rfl, rx, nn, ni, hb⟩
      have RN := Lib.hid rx
      have RF : Hid (∀ g, vblk vn = some g ∨ vblk vi = some g → w3.heap.size ≤ g ∧ ¬ F g) := Lib.hid (fun g hg => by
          have h1 : wa4.heap.size ≤ g := hg.elim (nn g) (ni g)
          exact ⟨by have := BB.out.size; omega, fun hf => by have := (NB.out g hf).2; omega⟩)
      have RA : Hid (∀ g, vblk vn = some g ∨ vblk vi = some g → g ≠ bq) := Lib.hid (fun g hg => by
          have h1 : wa4.heap.size ≤ g := hg.elim (nn g) (ni g)
          have := BV.out.lt; omega)
      clear rx nn ni sg
      have BB := Lib.hid (BB.out.trans (hb.mono BB.out.size))
      have KK := Lib.hid (KK.out.rw hb)
      have KN := Lib.hid (KN.out.below hb)
      have NB : Hid (∀ k, F k → w3.heap.size ≤ k ∧ k < _) := Lib.hid (fun k hk => ⟨(NB.out k hk).1, Nat.lt_of_lt_of_le (NB.out k hk).2 hb.size⟩)
      have BV := Lib.hid (BV.out.below hb BV.out.lt)
      clear hb
      unfold rv
      go_wp2_with fail
      refine hQ4 _ _ KK.out ?_
      clear hQ4 Q4
      refine Pl.tree_sole (i := 12) rfl (fun wa5 ha5 Q5 hQ5 => ?_)
      have BB := Lib.hid (BB.out.trans (ha5.mono BB.out.size))
      have KK := Lib.hid (KK.out.rw ha5)
      have KN := Lib.hid (KN.out.below ha5)
      have NB : Hid (∀ k, F k → w3.heap.size ≤ k ∧ k < _) := Lib.hid (fun k hk => ⟨(NB.out k hk).1, Nat.lt_of_lt_of_le (NB.out k hk).2 ha5.size⟩)
      have RN := Lib.hid (RN.out.below ha5)
      have BV := Lib.hid (BV.out.below ha5 BV.out.lt)
      clear ha5
      go_wp2_with fail
      refine hQ5 _ _ KK.out ?_
      clear hQ5 Q5
      refine Pl.tree_sole (i := 13) rfl (fun wa6 ha6 Q6 hQ6 => ?_)
      have BB := Lib.hid (BB.out.trans (ha6.mono BB.out.size))
      have KK := Lib.hid (KK.out.rw ha6)
      have KN := Lib.hid (KN.out.below ha6)
      have NB : Hid (∀ k, F k → w3.heap.size ≤ k ∧ k < _) := Lib.hid (fun k hk => ⟨(NB.out k hk).1, Nat.lt_of_lt_of_le (NB.out k hk).2 ha6.size⟩)
      have RN := Lib.hid (RN.out.below ha6)
      have BV := Lib.hid (BV.out.below ha6 BV.out.lt)
      clear ha6
      have R5 := Lib.hid (BV.out.setRow (kcells (newS names f m bt) vn vi (.slice none 0 0)))
      have kr := Keeps.row wa6 bq (kcells (newS names f m bt) vn vi (.slice none 0 0)).toArray
      have oneV : ∀ v ∈ (kcells (newS names f m bt) vn vi (.slice none 0 0)), v.oneCell' = true := kc_any _ _ _ _ (sg_one RN.out.names) (sg_one RN.out.wants) rfl
      have KK := Lib.hid (KK.out.trans kr (fun k hk e => by have := HBQ.out; subst e; exact absurd hk (by show ¬ _ < w3.heap.size; omega)))
      have hb := below_row BB.out bq (kcells (newS names f m bt) vn vi (.slice none 0 0)).toArray HBQ.out
      have BB := Lib.hid hb
      have KN := Lib.hid (KN.out.keeps kr (fun k hF e => AF.out (e ▸ hF)))
      have NB : Hid (∀ k, F k → w3.heap.size ≤ k ∧ k < _) := Lib.hid (fun k hk => ⟨(NB.out k hk).1, Nat.lt_of_lt_of_le (NB.out k hk).2 kr.size⟩)
      have RN := Lib.hid (RN.out.keeps kr (fun g hg e => RA.out g (.inl hg) e) (fun g hg e => RA.out g (.inr hg) e) (fun g hg e => by simp [vblk] at hg))
      have BV' := BV
      clear BV kr hb
      have BV := R5
      go_wp2_with (first | refine store_blk BV'.out keeper_size' rfl rfl oneV rfl rfl rfl rfl ?_)
      clear BV'
      refine hQ6 _ _ KK.out ?_
      clear hQ6 Q6
      refine Pl.tree_done (fun wz hz => ?_)
      have BB := Lib.hid (BB.out.trans (hz.mono BB.out.size))
      have KK := Lib.hid (KK.out.rw hz)
      have KN := Lib.hid (KN.out.below hz)
      have NB : Hid (∀ k, F k → w3.heap.size ≤ k ∧ k < _) := Lib.hid (fun k hk => ⟨(NB.out k hk).1, Nat.lt_of_lt_of_le (NB.out k hk).2 hz.size⟩)
      have RN := Lib.hid (RN.out.below hz)
      have BV := Lib.hid (BV.out.below hz BV.out.lt)
      clear hz
      go_wp2_with fail
      go_meet
      exact ⟨F, b, bq, vn, vi, rfl, rfl, PR.mk' W0.out BB.out KN.out NB.out BV.out HBQ.out AF.out RN.out RF.out RA.out⟩
  case rest =>
  obtain ⟨F0, b, bx, vn0, vi0, rfl, rfl, P0⟩ := hcut
  have R0 := Lib.hid P0
  have hc0 : (newS names f m bt).clock ≤ 0 := Nat.le_refl _
  generalize newS names f m bt = s0 at *
  clear P0 C3 SG W0 NM HL HL0
  go_wp2_with fail
  go_loopw [7] (fun v7 wr => ∃ (i : Nat) (F : Nat → Prop) (s : KS) (vn vi va : Value), v7 = .int .i64 i ∧ i ≤ 200 ∧ s.clock ≤ i ∧ Hid (PR w wr F b bx s vn vi va)) (fun v7 _ => 200 - (intOf v7).toNat)
  case atStart => exact ⟨0, F0, s0, vn0, vi0, _, rfl, by omega, hc0, R0⟩
  case round =>
    clear R0 hc0
    obtain ⟨i, F, s, vn, vi, va, rfl, hi, hc, R⟩ := hrel
    by_cases hgo : i < len ∧ i < 200
    · obtain ⟨hg1, hg2⟩ := hgo
      obtain ⟨zb, zoff, rfl, cz0, hzb⟩ := HZ.out i hg1
      obtain ⟨an, cn, rfl⟩ := R.out.rx.names.shape
      obtain ⟨ai, ci, rfl⟩ := R.out.rx.wants.shape
      obtain ⟨aa, ca, rfl⟩ := R.out.rx.asked.shape
      obtain ⟨z, hz⟩ : ∃ z, z = zs.getD i 0 := ⟨_, rfl⟩
      rw [← hz] at cz0
      clear hz
      have HCZ := Lib.hid cz0
      have XB := Lib.hid R.out.xb
      have RT := rtick_ok s _ _ _ wr R.out.rx R.out.kf.ok (by omega)
      unfold rv at RT
      clear cz0
      go_wp2_with (first | refine load_blk XB.out Try.underlying31 rfl keeper_size' rfl rfl rfl rfl ?_)
      refine RT.mono ?_
      rintro e w2 ⟨vi', va', vo, rfl, hd⟩
      have HD := Lib.hid hd
      obtain ⟨ai', ci', rfl⟩ := hd.rx.wants.shape
      obtain ⟨aa', ca', rfl⟩ := hd.rx.asked.shape
      have BV := Lib.hid (Blk.new w2 31 kzero)
      have oneV := kc_one s.tick.1 an ai' aa' s.names.length cn s.tick.1.wants.length ci' s.tick.1.asked.length ca'
      have Y0 := Lib.hid (PY.store R.out hd (below1 w2 (.cells kzero.toArray 31)) BV.out (.inl hd.bel.size) (.inl (Nat.le_refl _)))
      clear hd RT XB
      go_upto_region 12 with (first | refine store_blk BV.out keeper_size' rfl rfl oneV rfl rfl rfl rfl ?_)
      refine wp_gen (fun wx => PY w wx F b bx w2.heap.size s _ _ _ s.tick.1 (.slice ai' s.tick.1.wants.length ci') (.slice aa' s.tick.1.asked.length ca') vo s.tick.2) Y0.out ?_
      clear Y0 BV HD oneV R
      generalize w2.heap.size = yb at *
      clear w2
      rintro w4 y4
      have Y := Lib.hid y4
      have cz := (y4.pr.bel.cell (p := ⟨zb, zoff + i, none⟩) hzb).trans HCZ.out
      have CZ := Lib.hid cz
      have hb0 : (i : Int) < len := by omega
      clear y4
      go_upto_if 47 with fail
      go_cut [9, 10] (fun v9 v10 wx => ∃ (F' : Nat → Prop) (s' : KS) (ui ua : Value) (acts : List (Nat × ByteArray)), s'.clock ≤ i + 1 ∧ acts.length ≤ 17 ∧ Hid (PZ w wx F' b bx yb s' (.slice an s.names.length cn) ui ua v9 v10 acts))
      case first =>
        by_cases hz0 : z = 0
        · subst hz0
          have hq1 : s.tick.1.clock ≤ i + 1 := by have h := clock_step s 0; unfold stepK at h; rw [if_pos rfl] at h; omega
          have hq2 : s.tick.2.length ≤ 17 := by have h := acts_step Y.out.pr.kf.ok 0; unfold stepK at h; rw [if_pos rfl] at h; exact h
          have Q1 := Lib.hid hq1
          have Q2' := Lib.hid hq2
          clear hq1 hq2 cz
          go_wp2_with fail
          refine (tickF F b s _ Y.out.pr.kf (by omega)).mono ?_
          rintro e w5 ⟨vg, rfl, ha⟩
          have Z := Lib.hid (Y.out.step ha)
          clear ha
          go_wp2_with fail
          go_meet
          exact ⟨_, _, _, _, _, Q1.out, Q2'.out, Z⟩
        · have hzb' : (z == 0) = false := by simpa using hz0
          have hq1 : (s.told z).1.clock ≤ i + 1 := by have h := clock_step s z; unfold stepK at h; rw [if_neg hz0] at h; omega
          have hq2 : (s.told z).2.length ≤ 17 := by have h := acts_step Y.out.pr.kf.ok z; unfold stepK at h; rw [if_neg hz0] at h; exact h
          have Q1 := Lib.hid hq1
          have Q2' := Lib.hid hq2
          clear hq1 hq2 hz0
          go_upto_region 14 with fail
          have XB := Lib.hid Y.out.pr.xb
          have hny : bx ≠ yb := by have := Y.out.yw; omega
          have hzy : zb ≠ yb := by have := Y.out.yw; have := Y.out.pr.xw; omega
          have HZY := Lib.hid hzy
          clear cz
          (refine Pl.wp_region_plan (fun k => k = yb) [(true, 0), (true, 1), (true, 2), (true, 3), (true, 4), (false, 5), (false, 6), (true, 7), (true, 8), (false, 9), (false, 10)] (by kernel_rfl) (by kernel_rfl) ?_)
          (refine Pl.plan_head (i := 0) rfl (fun K hK => ?_); refine Pl.plan_load (fun w' hw' => hw'.blk (show Blk w4.drew _ _ _ from XB.out) hny) Try.underlying31 rfl keeper_size' rfl (by first | rfl | simp [Region.wanted, yielded]) rfl (by go_simp) ?_; go_simp; (with_reducible apply hK); clear hK K)
          (refine Pl.plan_head (i := 1) rfl (fun K hK => ?_); refine Pl.plan_plain (.slice (some ⟨zb, zoff, none⟩) len zcap) (by first | rfl | simp [Region.wanted, yielded]) (fun w' hw' => by go_simp) ?_; go_simp; (with_reducible apply hK); clear hK K)
          (refine Pl.plan_head (i := 2) rfl (fun K hK => ?_); refine Pl.plan_plain (.int .i64 i) (by first | rfl | simp [Region.wanted, yielded]) (fun w' hw' => by go_simp) ?_; go_simp; (with_reducible apply hK); clear hK K)
          (refine Pl.plan_head (i := 3) rfl (fun K hK => ?_); refine Pl.plan_plain (.pointer (some ⟨zb, zoff + i, none⟩)) (by first | rfl | simp [Region.wanted, yielded]) (fun w' hw' => by go_simp) ?_; go_simp; (with_reducible apply hK); clear hK K)
          (refine Pl.plan_head (i := 4) rfl (fun K hK => ?_); refine Pl.plan_plain (.int .i64 z) (by first | rfl | simp [Region.wanted, yielded]) (fun w' hw' => by have h := hw'.cell (p := ⟨zb, zoff + i, none⟩) (show w4.drew.cell? _ = _ from CZ.out) hzy; go_simp; try simp [h]) ?_; go_simp; (with_reducible apply hK); clear hK K)
          refine Pl.plan_sole (i := 5) rfl (fun w5 h5 Q5 hQ5 => ?_)
          have B5 : Below w4.heap.size w4 w5 := (below_drewN (Below.refl _ _) 1).trans h5
          have Y5 := Lib.hid (Y.out.below B5)
          have K5 : Hid (Keeps (fun k => k = yb) w4.drew w5) := Lib.hid ((Keeps.refl _ _).rw h5)
          have CZ5 := Lib.hid ((B5.cell (p := ⟨zb, zoff + i, none⟩) (by show zb < _; have := Y.out.pr.bel.size; omega)).trans CZ.out)
          have RT := rtold_ok s _ _ _ w5 Y5.out.pr.rx Y5.out.pr.kf.ok z
          unfold rv at RT
          clear h5 B5 Y CZ
          go_wp2_with fail
          refine RT.mono ?_
          rintro e w6 ⟨vi2, va2, vo2, rfl, hd⟩
          have HD := Lib.hid hd
          obtain ⟨ai2, ci2, rfl⟩ := hd.rx.wants.shape
          obtain ⟨aa2, ca2, rfl⟩ := hd.rx.asked.shape
          have K6 := Lib.hid (K5.out.rw hd.bel)
          clear hd RT K5
          go_wp2_with fail
          refine hQ5 _ _ K6.out ?_
          clear hQ5 Q5
          refine Pl.plan_sole (i := 6) rfl (fun w7 h7 Q6 hQ6 => ?_)
          have K7 := Lib.hid (K6.out.rw h7)
          have H7 := Lib.hid h7
          clear h7 K6
          go_wp2_with fail
          refine hQ6 _ _ K7.out ?_
          clear hQ6 Q6
          (refine Pl.plan_head (i := 7) rfl (fun K hK => ?_); refine Pl.plan_plain (.agg (kcells (s.told z).1 (.slice an s.names.length cn) (.slice ai2 (s.told z).1.wants.length ci2) (.slice aa2 (s.told z).1.asked.length ca2)).toArray) (by first | rfl | simp [Region.wanted, yielded]) (fun w' hw' => by go_simp) ?_; go_simp; (with_reducible apply hK); clear hK K)
          (refine Pl.plan_head (i := 8) rfl (fun K hK => ?_); refine Pl.plan_plain (vo2) (by first | rfl | simp [Region.wanted, yielded]) (fun w' hw' => by go_simp) ?_; go_simp; (with_reducible apply hK); clear hK K)
          refine Pl.plan_sole (i := 9) rfl (fun w8 h8 Q9 hQ9 => ?_)
          have B68 : Below w6.heap.size w6 w8 := H7.out.trans h8
          have K8 := Lib.hid (K7.out.rw h8)
          have BV := Lib.hid ((Y5.out.ybk.below HD.out.bel Y5.out.ybk.lt).below B68 (Nat.lt_of_lt_of_le Y5.out.ybk.lt HD.out.bel.size))
          have oneV := kc_one (s.told z).1 an ai2 aa2 s.names.length cn (s.told z).1.wants.length ci2 (s.told z).1.asked.length ca2
          have Y9 := Lib.hid (PY.store Y5.out.pr HD.out B68 BV.out (.inr ⟨Y5.out.yw, Y5.out.ybk.lt, Y5.out.yF, Y5.out.offx⟩) (.inr Y5.out.ybk.lt))
          have CZ8 : Hid (w8.cell? ⟨zb, zoff + i, none⟩ = some (.int .i64 z)) := Lib.hid ((B68.cell (p := ⟨zb, zoff + i, none⟩) (by show zb < _; have := HD.out.bel.size; have := Y5.out.pr.bel.size; omega)).trans ((HD.out.bel.cell (p := ⟨zb, zoff + i, none⟩) (by show zb < _; have := Y5.out.pr.bel.size; omega)).trans CZ5.out))
          have KR := Lib.hid (Keeps.row w8 yb (kcells (s.told z).1 (.slice an s.names.length cn) (.slice ai2 (s.told z).1.wants.length ci2) (.slice aa2 (s.told z).1.asked.length ca2)).toArray)
          have CZ9 := Lib.hid (KR.out.cell (p := ⟨zb, zoff + i, none⟩) CZ8.out HZY.out)
          have K9 := Lib.hid (K8.out.trans KR.out (fun k _ e => e))
          clear B68 h8 K7 H7 HD Y5 CZ5 CZ8 KR K8
          go_wp2_with (first | refine store_blk BV.out keeper_size' rfl rfl oneV rfl rfl rfl rfl ?_)
          refine hQ9 _ _ K9.out ?_
          clear hQ9 Q9
          generalize World.setRow w8 _ _ = w9 at *
          refine Pl.plan_sole (i := 10) rfl (fun w10 h10 Q10 hQ10 => ?_)
          have K10 := Lib.hid (K9.out.rw h10)
          have Y10 := Lib.hid (Y9.out.below h10)
          have CZ10 := Lib.hid ((h10.cell (p := ⟨zb, zoff + i, none⟩) (by show zb < _; have := Y9.out.pr.bel.size; omega)).trans CZ9.out)
          clear K9 Y9 CZ9 h10
          go_wp2_with fail
          refine hQ10 _ _ K10.out ?_
          clear hQ10 Q10 K10 BV oneV
          refine Pl.plan_nil (fun w11 h11 => ?_)
          have Y11 := Lib.hid (Y10.out.below h11)
          have cz11 := (h11.cell (p := ⟨zb, zoff + i, none⟩) (by show zb < _; have := Y10.out.pr.bel.size; omega)).trans CZ10.out
          clear Y10 CZ10 h11 XB
          go_wp2_with fail
          refine (toldF F b s z _ Y11.out.pr.kf).mono ?_
          rintro e w12 ⟨vg, rfl, ha⟩
          have Z := Lib.hid (Y11.out.step ha)
          clear ha cz11
          go_wp2_with fail
          go_meet
          exact ⟨_, _, _, _, _, Q1.out, Q2'.out, Z⟩
      case rest =>
      obtain ⟨F', s', ui, ua, acts, hcl, hal, Z⟩ := hcut
      obtain ⟨ai2, ci2, rfl⟩ := Z.out.ry.wants.shape
      obtain ⟨aa2, ca2, rfl⟩ := Z.out.ry.asked.shape
      obtain ⟨xs, hxl, hxs⟩ := Z.out.xb
      have XL := Lib.hid hxl
      have XS := Lib.hid hxs
      have YB := Lib.hid Z.out.ybk
      have oneV := kc_one s' an ai2 aa2 s.names.length cn s'.wants.length ci2 s'.asked.length ca2
      have ZB := Lib.hid Z.out.back
      clear hxl hxs Z Y CZ HCZ cz
      go_upto_region 17 with (first | refine load_blk YB.out Try.underlying31 rfl keeper_size' rfl rfl rfl rfl ?_ | refine store_blk XS.out keeper_size' rfl XL.out oneV rfl rfl rfl rfl ?_)
      generalize World.setRow wc _ _ = w9 at *
      obtain ⟨hpr, hso, hsg⟩ := ZB.out
      have SS := same_ok acts acts u10 u9 w9 hsg hso (by omega) (by omega)
      rw [show decide (acts = acts) = true from decide_eq_true rfl] at SS
      have R9 := Lib.hid hpr
      clear hpr hso hsg ZB XL XS YB oneV
      go_wp2_with fail
      refine SS.mono ?_
      rintro e w10 ⟨rfl, b10⟩
      have R10 := Lib.hid (R9.out.below b10)
      have XB := Lib.hid R10.out.xb
      have IO := is_ok F' b s' _ _ _ w10 R10.out.kf R10.out.rx
      unfold rv at IO
      clear R9 b10 SS
      go_wp2_with (first | refine load_blkG XB.out Try.underlying31 rfl keeper_size' rfl (by first | rfl | simp [Region.wanted, yielded]) rfl rfl ?_)
      refine IO.mono ?_
      rintro e w11 ⟨rfl, b11⟩
      have R11 := Lib.hid (R10.out.below b11)
      clear R10 b11 IO XB
      go_wp2_with fail
      go_roundw
      case rel => exact ⟨i + 1, F', s', _, _, _, by go_num, by omega, hcl, R11⟩
      case measure => simp [intOf]; omega
    · have hb := R.out.bel
      rcases Nat.lt_or_ge i len with hq | hq
      all_goals
        go_wp2_with fail
        go_ret
        exact ⟨rfl, hb⟩
end Go.Proofs.Ytaenfkekdhnakaa
