/-
The document's Tick, walked: the beat; Tick in one.
-/
import Derived.Test.YtaenfkekdhnakaaKRef4
import Derived.Test.YtaenfkekdhnakaaPlan
namespace Go.Proofs.Ytaenfkekdhnakaa
open Go.RowKit

theorem K2.ownRow {w wx : World} {b : Nat} {s s' : KS} {vn vi va un ui ua : Value} (h : K2 w wx b s vn vi va) : K2 w (wx.setRow b (kcells s' un ui ua).toArray) b s' un ui ua := by
  obtain ⟨c, hl, hr⟩ := h.res
  exact ⟨h.own.setRow _, ⟨c, hl, hr.farRow (by omega) _⟩, below_row h.bel _ _ h.lo, h.lo⟩
set_option maxHeartbeats 4000000 in
set_option maxRecDepth 100000 in
theorem rtick_ping (s : KS) (vn vi va : Value) (w : World) (H : RX w s vn vi va) (ho : s.Ok) (hc : s.clock < 1000000000000) (q1 : s.state = 2) (q2 : s.since + s.beat ≤ s.clock + 1) (q3 : s.asked = []) :
    Calls Try.prog 12 #[rv s vn vi va] w fun e w' => ∃ vi' va' vo, e = .returned (.tuple #[rv (s.pinged.askAt (· == 2) s.pinged.names.length) vn vi' va', vo]) ∧ RDid w w' (s.pinged.askAt (· == 2) s.pinged.names.length) vn vi va vi' va' vo ((3, emp) :: (s.pinged.askN (· == 2) s.pinged.names.length).2.2) := by
  obtain ⟨j0, hj, hy0, hy1, hy2⟩ := info_parts (show (Try.prog.info? 45).map (fun i => (i.zero, i.size, i.bytes)) = some (some (.agg #[.int .i64 0, .string ⟨#[]⟩]), 2, 24) by kernel_rfl)
  have J := Lib.hid hj
  have J0 := Lib.hid hy0
  have J1 := Lib.hid hy1
  have J2 := Lib.hid hy2
  have Q3 := Lib.hid q3
  clear hj hy0 hy1 hy2 q3
  obtain ⟨an, cn, rfl⟩ := H.names.shape
  obtain ⟨ai, ci, rfl⟩ := H.wants.shape
  obtain ⟨aa, ca, rfl⟩ := H.asked.shape
  have HX := Lib.hid H
  have HO := Lib.hid ho
  have h3 := ho.most2
  have h4 := ho.beat2
  have h5 := ho.since
  have K0 := K2.new w s (.slice an s.names.length cn) (.slice ai s.wants.length ci) (.slice aa s.asked.length ca)
  unfold rv
  clear H ho
  go_enter Try.func12, Try.ntmps12
  go_upto_region 1 with fail
  refine wp_gen (fun wx => K2 w wx w.heap.size s (.slice an s.names.length cn) (.slice ai s.wants.length ci) (.slice aa s.asked.length ca)) K0 ?_
  clear K0
  rintro w1 K1
  have c5 := K1.own.cell 5 _ rfl
  have f5 := K1.own.free 5
  have K20 := K1.num 5 (.int .i64 (s.clock + 1)) s.tick1 (.slice an s.names.length cn) (.slice ai s.wants.length ci) (.slice aa s.asked.length ca) (by simp [kcells, KS.tick1])
  go_upto_region 2 with fail
  refine wp_gen (fun wx => K2 w wx w.heap.size s.tick1 (.slice an s.names.length cn) (.slice ai s.wants.length ci) (.slice aa s.asked.length ca)) K20 ?_
  clear c5 f5 K20 K1
  rintro w2 K2'
  have K := Lib.hid K2'
  have c2 : w2.cell? ⟨w.heap.size, 2, none⟩ = some (.int .i64 s.most) := K2'.own.cell 2 _ rfl
  have c3 : w2.cell? ⟨w.heap.size, 3, none⟩ = some (.int .i64 s.beat) := K2'.own.cell 3 _ rfl
  have c4 : w2.cell? ⟨w.heap.size, 4, none⟩ = some (.int .i64 s.state) := K2'.own.cell 4 _ rfl
  have c5 : w2.cell? ⟨w.heap.size, 5, none⟩ = some (.int .i64 ((s.clock : Int) + 1)) := K2'.own.cell 5 _ rfl
  have c6 : w2.cell? ⟨w.heap.size, 6, none⟩ = some (.int .i64 s.since) := K2'.own.cell 6 _ rfl
  have c7 : w2.cell? ⟨w.heap.size, 7, none⟩ = some (.int .i64 s.due) := K2'.own.cell 7 _ rfl
  have c10 : w2.cell? ⟨w.heap.size, 10, none⟩ = some (.slice aa s.asked.length ca) := K2'.own.cell 10 _ rfl
  have l0 : s.asked.length = 0 := by rw [Q3.out]; rfl
  rw [l0] at c10
  rw [q1] at c4
  have f6 := K2'.own.free 6
  have k3 := K2'.num 6 (.int .i64 (s.clock + 1)) { s.tick1 with since := s.clock + 1 } (.slice an s.names.length cn) (.slice ai s.wants.length ci) (.slice aa s.asked.length ca) (by simp [kcells])
  have K3 := Lib.hid k3
  have HO1 := HO.out.names
  have HO2 := HO.out.few
  have HNW := Lib.hid HO1
  have HFEW := Lib.hid HO2
  clear K2' k3 K q1 HO1 HO2 l0
  go_upto_region 17 with fail
  refine wp_gen (fun wx => K2 w wx w.heap.size { s.tick1 with since := s.clock + 1 } (.slice an s.names.length cn) (.slice ai s.wants.length ci) (.slice aa s.asked.length ca)) K3.out ?_
  clear K3 c2 c3 c4 c5 c6 c7 c10 f6 q2 h3 h4 h5
  rintro w3 k3
  have f10 := k3.own.free 10
  have c10 := k3.own.cell 10 _ rfl
  have hlt3 : w.heap.size < w3.heap.size := k3.own.lt
  obtain ⟨w4, e4⟩ : ∃ w4, w4 = w3.setCell ⟨w.heap.size, 10, none⟩ (.slice (some ⟨w3.heap.size, 0, none⟩) 1 1) := ⟨_, rfl⟩
  have z4 : w4.heap.size = w3.heap.size := by rw [e4]; simp [World.setCell]
  have k4 : K2 w w4 w.heap.size s.pinged (.slice an s.names.length cn) (.slice ai s.wants.length ci) (.slice (some ⟨w3.heap.size, 0, none⟩) 1 1) := by
    rw [e4]; exact k3.num 10 _ s.pinged _ _ _ rfl
  have s4 := lit_one w4 3 (.int .i64 (-1))
  rw [z4] at s4
  have FIN := Lib.hid (And.intro (k4.below (below1 w4 (.cells #[.int .i64 (-1)] 3))) s4)
  have E4 := Lib.hid e4
  have HW3 : w.heap.size + 2 ≤ w3.heap.size := by obtain ⟨_, _, h2⟩ := k3.res; have := h2.lt; omega
  clear k3 k4 s4 e4 z4
  go_upto_region 18 with fail
  rw [← E4.out]
  refine wp_gen (fun wx => K2 w wx w.heap.size s.pinged (.slice an s.names.length cn) (.slice ai s.wants.length ci) (.slice (some ⟨w3.heap.size, 0, none⟩) 1 1) ∧ Sg wx 1 (.slice (some ⟨w3.heap.size, 0, none⟩) 1 1) 1 [.int .i64 (-1)]) FIN.out ?_
  clear FIN E4 c10 f10
  rintro w5 ⟨k5, s5⟩
  have K5 := Lib.hid k5
  have RX5 := Lib.hid (show RX w5 s.pinged (.slice an s.names.length cn) (.slice ai s.wants.length ci) (.slice (some ⟨w3.heap.size, 0, none⟩) 1 1) from ⟨(HX.out.below k5.bel).names, (HX.out.below k5.bel).wants, s5⟩)
  have RA' := rask_ok s.pinged (.slice an s.names.length cn) (.slice ai s.wants.length ci) (.slice (some ⟨w3.heap.size, 0, none⟩) 1 1) w5 RX5.out HNW.out HFEW.out (by show 1 ≤ 17; omega) 2 (· == 2) (.inr ⟨rfl, rfl⟩)
  have eN : s.pinged.names.length = s.names.length := rfl
  rw [eN] at RA'
  have hon := (askN_len s.pinged (· == 2) s.names.length).2.2
  have HON := Lib.hid (Nat.le_trans hon HFEW.out)
  obtain ⟨s', hs'⟩ : ∃ s', s' = s.pinged.askAt (· == 2) s.names.length := ⟨_, rfl⟩
  rw [← hs'] at RA'
  obtain ⟨L, hL⟩ : ∃ L, L = (s.pinged.askN (· == 2) s.names.length).2.2 := ⟨_, rfl⟩
  rw [← hL] at RA' HON
  have HS' := Lib.hid hs'
  have HL := Lib.hid hL
  have hsn : s'.names = s.names := by rw [hs']; rfl
  have HSN := Lib.hid hsn
  unfold rv at RA'
  clear k5 s5 hon hs' hL eN hsn
  go_wp2_with (first | refine load_blk K5.out.own Try.underlying31 rfl keeper_size' rfl rfl rfl rfl ?_)
  refine RA'.mono ?_
  rintro e w6 ⟨vi', va', vo, rfl, hr, so, ni, na, no, hb⟩
  have K6 := Lib.hid (K5.out.below hb)
  obtain ⟨ai', ci', rfl⟩ := hr.wants.shape
  obtain ⟨aa', ca', rfl⟩ := hr.asked.shape
  have hone := kc_one s' an ai' aa' s.names.length cn s'.wants.length ci' s'.asked.length ca'
  have K7 := Lib.hid (K6.out.ownRow (s' := s') (un := .slice an s.names.length cn) (ui := .slice ai' s'.wants.length ci') (ua := .slice aa' s'.asked.length ca'))
  have KP := Keeps.row w6 w.heap.size (kcells s' (.slice an s.names.length cn) (.slice ai' s'.wants.length ci') (.slice aa' s'.asked.length ca')).toArray
  have hlt5 : w.heap.size < w5.heap.size := K5.out.own.lt
  have HZ5 : Hid (w.heap.size + 2 ≤ w5.heap.size) := Lib.hid (by obtain ⟨_, _, h2⟩ := K5.out.res; have := h2.lt; omega)
  have NI := Lib.hid ni
  have NA := Lib.hid na
  have NO := Lib.hid no
  have SO := Lib.hid (so.keeps KP (fun g hg e => by have := no g hg; omega))
  have SI := Lib.hid (hr.wants.keeps KP (fun g hg e => by have := ni g hg; omega))
  have SJ := Lib.hid (hr.asked.keeps KP (fun g hg e => by have := na g hg; omega))
  clear hr so ni na no hb KP K5 RX5 RA'
  go_upto_region 19 with (first | refine store_blk K6.out.own keeper_size' rfl rfl hone rfl rfl rfl rfl ?_)
  refine wp_gen (fun wx => K2 w wx w.heap.size s' (.slice an s.names.length cn) (.slice ai' s'.wants.length ci') (.slice aa' s'.asked.length ca') ∧ Sg wx 2 vo L.length (avals L) ∧ Sg wx 1 (.slice ai' s'.wants.length ci') s'.wants.length (nvals s'.wants) ∧ Sg wx 1 (.slice aa' s'.asked.length ca') s'.asked.length (zvals s'.asked)) ⟨K7.out, SO.out, SI.out, SJ.out⟩ ?_
  clear K7 SO SI SJ K6 hlt5
  rintro w7 ⟨k7, so, si, sj⟩
  have hb7 : w.heap.size < w7.heap.size := k7.own.lt
  have O7 := Lib.hid k7.own
  have SO := Lib.hid so
  have oneL := avals_one L
  have q5 : 1 + L.length ≤ maxLen := by have := HON.out; unfold maxLen; omega
  have q6 : (1 + L.length) * 24 ≤ 140737488355328 := by have := HON.out; omega
  have K7 := Lib.hid k7
  have SI := Lib.hid si
  have SJ := Lib.hid sj
  clear k7 so si sj
  (refine Pl.wp_region_plan (fun k => k = w.heap.size + 1) [(true, 0), (true, 1), (true, 3), (false, 2), (false, 4), (false, 5), (false, 6)] (by kernel_rfl) (by kernel_rfl) ?_)
  (refine Pl.plan_head (i := 0) rfl (fun K hK => ?_); refine Pl.plan_load (fun w' hw' => hw'.blk (show Blk w7.drew _ _ _ from O7.out) (by omega)) Try.underlying31 rfl keeper_size' rfl (by first | rfl | simp [Region.wanted, yielded]) rfl (by go_simp) ?_; go_simp; (with_reducible apply hK); clear hK K)
  (refine Pl.plan_head (i := 1) rfl (fun K hK => ?_); refine Pl.plan_plain (.agg #[.int .i64 3, .string ⟨#[] ⟩]) (by first | rfl | simp [Region.wanted, yielded]) (fun w' hw' => by go_simp) ?_; go_simp; (with_reducible apply hK); clear hK K)
  (refine Pl.plan_head (i := 3) rfl (fun K hK => ?_); refine Pl.plan_plain (vo) (by first | rfl | simp [Region.wanted, yielded]) (fun w' hw' => by go_simp) ?_; go_simp; (with_reducible apply hK); clear hK K)
  refine Pl.plan_sole (i := 2) rfl (fun w8 h8 Q2 hQ2 => ?_)
  go_wp2_with fail
  have B8 : Below w7.heap.size w7 w8 := (below_drewN (Below.refl _ _) 1).trans h8
  have KS8 : Keeps (fun k => k = w.heap.size + 1) w7.drew w8 := (Keeps.refl _ _).rw h8
  refine hQ2 _ _ (KS8.alloc _) ?_
  clear hQ2 Q2
  refine Pl.plan_sole (i := 4) rfl (fun w9 h9 Q4 hQ4 => ?_)
  have B9 : Below w7.heap.size w7 w9 := (B8.alloc B8.size _).trans (h9.mono (by simp; exact Nat.le_trans B8.size (Nat.le_succ _)))
  have SL := Lib.hid ((lit_acts w8 45 3 emp).below h9)
  have SP := Lib.hid (SO.out.below B9)
  have K89 : w7.heap.size ≤ w8.heap.size := B8.size
  have KS9 := Lib.hid ((KS8.alloc (.cells #[.int .i64 (3 : Nat), .string emp] 45)).rw h9)
  have hvb : vblk (.slice (some ⟨w8.heap.size, 0, none⟩) 1 1) = some w8.heap.size := by simp [vblk]
  have HVB := Lib.hid hvb
  have BB9 := Lib.hid B9
  clear B8 KS8 h9 B9 h8 hvb
  refine (wpList_append_any _ rfl (.tmp 70) (.tmp 71) 33 rfl 45 j0 (.agg #[.int .i64 0, .string ⟨#[]⟩]) 2 24 Try.underlying33 J.out J0.out J1.out J2.out rfl (by decide) _ 1 _ rfl SL.out _ L.length _ rfl SP.out oneL q5 q6 ?grow)
  case grow =>
    intro v' w10 hs hv hk
    unfold wpList
    have hk0 : ∀ k, k < w7.heap.size → ¬ vblk (.slice (some ⟨w8.heap.size, 0, none⟩) 1 1) = some k := fun k hk' e => by
      have e' := HVB.out.symm.trans e
      have := Option.some.inj e'
      omega
    have KS10 := KS9.out.trans hk (fun k hk' e => (hk0 k hk' e).elim)
    have B10 : Below w7.heap.size w7 w10 := BB9.out.trans (hk.below BB9.out.size hk0)
    have S10 := Lib.hid hs
    have NV : Hid (∀ g, vblk v' = some g → w7.heap.size ≤ g) := Lib.hid (fun g hg => by
      have z9 := BB9.out.size
      rcases hv g hg with h1 | h1
      · have e' := HVB.out.symm.trans h1
        have := Option.some.inj e'
        omega
      · omega)
    have B10' := Lib.hid B10
    have KS10' := Lib.hid KS10
    clear hs hv hk hk0 B10 KS10 SL SP KS9 BB9
    go_wp2_with fail
    refine hQ4 _ _ KS10'.out ?_
    clear hQ4 Q4
    refine Pl.plan_sole (i := 5) rfl (fun w11 h11 Q5 hQ5 => ?_)
    have B11 := Lib.hid (B10'.out.trans (h11.mono B10'.out.size))
    have KS11 := Lib.hid (KS10'.out.rw h11)
    have S11 := Lib.hid (S10.out.below h11)
    have K11 := K7.out.below B11.out
    have hsz : w.heap.size + 1 < w7.heap.size := by obtain ⟨_, _, h2⟩ := K7.out.res; exact h2.lt
    have HSZ := Lib.hid hsz
    obtain ⟨cs, hcl, hcs⟩ := K11.res
    have HCS := Lib.hid hcs
    have HCL := Lib.hid hcl
    have R12 := Lib.hid (hcs.setRow (kcells s' (.slice an s.names.length cn) (.slice ai' s'.wants.length ci') (.slice aa' s'.asked.length ca')))
    have hb12 := K11.row (cs := kcells s' (.slice an s.names.length cn) (.slice ai' s'.wants.length ci') (.slice aa' s'.asked.length ca')) rfl
    have HB12 := Lib.hid hb12.bel
    have KR := Lib.hid (Keeps.row w11 (w.heap.size + 1) (kcells s' (.slice an s.names.length cn) (.slice ai' s'.wants.length ci') (.slice aa' s'.asked.length ca')).toArray)
    clear hcs hcl hb12 K11 h11 hsz
    go_wp2_with (first | refine store_blk HCS.out keeper_size' rfl HCL.out hone rfl rfl rfl rfl ?_)
    refine hQ5 _ _ (KS11.out.trans KR.out (fun k _ e => e)) ?_
    clear hQ5 Q5
    refine Pl.plan_sole (i := 6) rfl (fun w13 h13 Q6 hQ6 => ?_)
    have KS13 := Lib.hid ((KS11.out.trans KR.out (fun k _ e => e)).rw h13)
    have R13 := Lib.hid (R12.out.below h13 R12.out.lt)
    have HB13 := Lib.hid (HB12.out.trans (h13.mono HB12.out.size))
    have KR13 := Lib.hid (KR.out.rw h13)
    clear h13
    go_wp2_with fail
    refine hQ6 _ _ KS13.out ?_
    clear hQ6 Q6
    refine Pl.plan_nil (fun w14 h14 => ?_)
    have R14 := Lib.hid (R13.out.below h14 R13.out.lt)
    have HB14 := Lib.hid (HB13.out.trans (h14.mono HB13.out.size))
    have KR14 := Lib.hid (KR13.out.rw h14)
    clear h14
    go_wp2_with fail
    refine K2.ret R14.out rfl rfl rfl rfl ?_
    have h7 := HSZ.out
    have hz5 := HZ5.out
    have x1 := ((SI.out.below B11.out).keeps KR14.out (fun g hg e => by have := NI.out g hg; omega))
    have x2 := ((SJ.out.below B11.out).keeps KR14.out (fun g hg e => by have := NA.out g hg; omega))
    have x3 := S11.out.keeps KR14.out (fun g hg e => by have := NV.out g hg; omega)
    have x0 := HX.out.names.below HB14.out
    rw [show s.pinged.askAt (fun x => x == 2) s.pinged.names.length = s' from HS'.out.symm, show (s.pinged.askN (fun x => x == 2) s.pinged.names.length).2.2 = L from HL.out.symm]
    refine ⟨.slice ai' s'.wants.length ci', .slice aa' s'.asked.length ca', v', rfl, ⟨⟨?_, x1, x2⟩, ?_, fun g h => .inr (by have := NI.out g h; omega), fun g h => .inr (by have := NA.out g h; omega), fun g h => by have := NV.out g h; omega, HB14.out⟩⟩
    · rw [HSN.out]; exact x0
    · rw [show ((3, emp) :: L).length = 1 + L.length by simp; omega, show avals ((3, emp) :: L) = avals [(3, emp)] ++ avals L from rfl]
      exact x3
theorem rtick_ok (s : KS) (vn vi va : Value) (w : World) (H : RX w s vn vi va) (ho : s.Ok) (hc : s.clock < 1000000000000) :
    Calls Try.prog 12 #[rv s vn vi va] w fun e w' => ∃ vi' va' vo, e = .returned (.tuple #[rv s.tick.1 vn vi' va', vo]) ∧ RDid w w' s.tick.1 vn vi va vi' va' vo s.tick.2 := by
  have hst := ho.state
  unfold KS.tick
  by_cases h0 : s.state = 0
  · rw [if_pos h0]
    by_cases h1 : s.due ≤ s.clock + 1
    · rw [if_pos h1]; exact rtick_connect s vn vi va w H ho hc h0 h1
    · rw [if_neg h1]; exact rtick_quiet s vn vi va w H ho hc (.inl ⟨h0, by omega⟩)
  · rw [if_neg h0]
    by_cases h1 : s.state = 1
    · rw [if_pos h1]
      by_cases h2 : s.since + s.most ≤ s.clock + 1
      · rw [if_pos h2]; exact rtick_hang s vn vi va w H ho hc (.inl ⟨h1, h2⟩)
      · rw [if_neg h2]; exact rtick_quiet s vn vi va w H ho hc (.inr (.inl ⟨h1, by omega⟩))
    · rw [if_neg h1]
      by_cases h2 : s.since + s.beat ≤ s.clock + 1
      · rw [if_pos h2]
        by_cases h3 : s.asked = []
        · rw [if_pos h3]; exact rtick_ping s vn vi va w H ho hc (by omega) h2 h3
        · rw [if_neg h3]; exact rtick_hang s vn vi va w H ho hc (.inr ⟨by omega, h2, h3⟩)
      · rw [if_neg h2]; exact rtick_quiet s vn vi va w H ho hc (.inr (.inr ⟨by omega, by omega⟩))
end Go.Proofs.Ytaenfkekdhnakaa
