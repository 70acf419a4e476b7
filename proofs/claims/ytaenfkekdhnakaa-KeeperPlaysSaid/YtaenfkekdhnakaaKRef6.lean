/-
The document's Told, walked.
-/
import Derived.Test.YtaenfkekdhnakaaKRef5
namespace Go.Proofs.Ytaenfkekdhnakaa
open Go.RowKit

set_option maxHeartbeats 4000000 in
set_option maxRecDepth 100000 in
theorem rtold_none (s : KS) (vn vi va : Value) (w : World) (H : RX w s vn vi va) (ho : s.Ok) (what : Int) (h1 : ¬ (what = 1 ∧ s.state = 1)) (h2 : ¬ (what = 2 ∧ s.state ≠ 0)) (h3 : ¬ ((what = 3 ∨ what = 4) ∧ s.state = 2 ∧ s.asked ≠ [])) :
    Calls Try.prog 14 #[rv s vn vi va, .int .i64 what] w fun e w' => ∃ vi' va' vo, e = .returned (.tuple #[rv s vn vi' va', vo]) ∧ RDid w w' s vn vi va vi' va' vo [] := by
  obtain ⟨an, cn, rfl⟩ := H.names.shape
  obtain ⟨ai, ci, rfl⟩ := H.wants.shape
  obtain ⟨aa, ca, rfl⟩ := H.asked.shape
  have HX := Lib.hid H
  have HO := Lib.hid ho
  have K0 := K2.new w s (.slice an s.names.length cn) (.slice ai s.wants.length ci) (.slice aa s.asked.length ca)
  have cs : (what = 1 ∧ ((s.state : Int) == 1) = false) ∨ (what = 2 ∧ s.state = 0) ∨ ((what = 3 ∨ what = 4) ∧ ((s.state : Int) == 2) = false) ∨ ((what = 3 ∨ what = 4) ∧ s.state = 2 ∧ s.asked.length = 0) ∨ ((what == 1) = false ∧ (what == 2) = false ∧ (what == 3) = false ∧ (what == 4) = false) := by
    simp only [beq_eq_false_iff_ne]
    by_cases e1 : what = 1
    · exact .inl ⟨e1, by omega⟩
    · by_cases e2 : what = 2
      · exact .inr (.inl ⟨e2, by omega⟩)
      · by_cases e3 : what = 3 ∨ what = 4
        · by_cases e4 : s.state = 2
          · exact .inr (.inr (.inr (.inl ⟨e3, e4, by rw [Decidable.byContradiction fun e => h3 ⟨e3, e4, e⟩]; rfl⟩)))
          · exact .inr (.inr (.inl ⟨e3, by omega⟩))
        · exact .inr (.inr (.inr (.inr ⟨e1, e2, by omega, by omega⟩)))
  unfold rv
  clear H ho h1 h2 h3
  go_enter Try.func14, Try.ntmps14
  go_upto_region 1 with fail
  refine wp_gen (fun wx => K2 w wx w.heap.size s (.slice an s.names.length cn) (.slice ai s.wants.length ci) (.slice aa s.asked.length ca)) K0 ?_
  clear K0
  rintro w2 K2'
  have K := Lib.hid K2'
  have c4 : w2.cell? ⟨w.heap.size, 4, none⟩ = some (.int .i64 s.state) := K2'.own.cell 4 _ rfl
  have c10 : w2.cell? ⟨w.heap.size, 10, none⟩ = some (.slice aa s.asked.length ca) := K2'.own.cell 10 _ rfl
  obtain ⟨xs, hcl, hcs⟩ := K2'.res
  have HCS := Lib.hid hcs
  have HCL := Lib.hid hcl
  have hone := kc_one s an ai aa s.names.length cn s.wants.length ci s.asked.length ca
  have KR := Lib.hid (K2'.row (cs := kcells s (.slice an s.names.length cn) (.slice ai s.wants.length ci) (.slice aa s.asked.length ca)) rfl)
  have K9 := Lib.hid (hcs.setRow (kcells s (.slice an s.names.length cn) (.slice ai s.wants.length ci) (.slice aa s.asked.length ca)))
  have FIN : Hid (∀ wx, K2 w wx w.heap.size s (.slice an s.names.length cn) (.slice ai s.wants.length ci) (.slice aa s.asked.length ca) →
      ∃ vi' va' vo, Ending.returned (.tuple #[rv s (.slice an s.names.length cn) (.slice ai s.wants.length ci) (.slice aa s.asked.length ca), .slice none 0 0]) = .returned (.tuple #[rv s (.slice an s.names.length cn) vi' va', vo]) ∧
        RDid w wx s (.slice an s.names.length cn) (.slice ai s.wants.length ci) (.slice aa s.asked.length ca) vi' va' vo []) := Lib.hid fun wx h =>
    ⟨_, _, _, rfl, ⟨HX.out.below h.bel, Sg.nil _ _, fun _ h => .inl h, fun _ h => .inl h, fun g h => by simp [vblk] at h, h.bel⟩⟩
  clear K2' hcs hcl
  rcases cs with ⟨rfl, q⟩ | ⟨rfl, q⟩ | ⟨rfl | rfl, q⟩ | ⟨rfl | rfl, q, q'⟩ | ⟨q1, q2, q3, q4⟩
  · go_wp2_with (first | refine load_blk K.out.own Try.underlying31 rfl keeper_size' rfl rfl rfl rfl ?_ | refine store_blk HCS.out keeper_size' rfl HCL.out hone rfl rfl rfl rfl ?_)
    refine K2.ret K9.out rfl rfl rfl rfl ?_
    exact FIN.out _ KR.out
  · rw [q] at c4; clear q
    go_wp2_with (first | refine load_blk K.out.own Try.underlying31 rfl keeper_size' rfl rfl rfl rfl ?_ | refine store_blk HCS.out keeper_size' rfl HCL.out hone rfl rfl rfl rfl ?_)
    refine K2.ret K9.out rfl rfl rfl rfl ?_
    exact FIN.out _ KR.out
  · go_wp2_with (first | refine load_blk K.out.own Try.underlying31 rfl keeper_size' rfl rfl rfl rfl ?_ | refine store_blk HCS.out keeper_size' rfl HCL.out hone rfl rfl rfl rfl ?_)
    refine K2.ret K9.out rfl rfl rfl rfl ?_
    exact FIN.out _ KR.out
  · go_wp2_with (first | refine load_blk K.out.own Try.underlying31 rfl keeper_size' rfl rfl rfl rfl ?_ | refine store_blk HCS.out keeper_size' rfl HCL.out hone rfl rfl rfl rfl ?_)
    refine K2.ret K9.out rfl rfl rfl rfl ?_
    exact FIN.out _ KR.out
  · rw [q] at c4; rw [q'] at c10; clear q q'
    go_wp2_with (first | refine load_blk K.out.own Try.underlying31 rfl keeper_size' rfl rfl rfl rfl ?_ | refine store_blk HCS.out keeper_size' rfl HCL.out hone rfl rfl rfl rfl ?_)
    refine K2.ret K9.out rfl rfl rfl rfl ?_
    exact FIN.out _ KR.out
  · rw [q] at c4; rw [q'] at c10; clear q q'
    go_wp2_with (first | refine load_blk K.out.own Try.underlying31 rfl keeper_size' rfl rfl rfl rfl ?_ | refine store_blk HCS.out keeper_size' rfl HCL.out hone rfl rfl rfl rfl ?_)
    refine K2.ret K9.out rfl rfl rfl rfl ?_
    exact FIN.out _ KR.out
  · go_wp2_with (first | refine load_blk K.out.own Try.underlying31 rfl keeper_size' rfl rfl rfl rfl ?_ | refine store_blk HCS.out keeper_size' rfl HCL.out hone rfl rfl rfl rfl ?_)
    refine K2.ret K9.out rfl rfl rfl rfl ?_
    exact FIN.out _ KR.out
set_option maxHeartbeats 4000000 in
set_option maxRecDepth 100000 in
theorem rtold_lost (s : KS) (vn vi va : Value) (w : World) (H : RX w s vn vi va) (ho : s.Ok) (q1 : s.state ≠ 0) :
    Calls Try.prog 14 #[rv s vn vi va, .int .i64 2] w fun e w' => ∃ vi' va' vo, e = .returned (.tuple #[rv s.fail vn vi' va', vo]) ∧ RDid w w' s.fail vn vi va vi' va' vo [] := by
  obtain ⟨an, cn, rfl⟩ := H.names.shape
  obtain ⟨ai, ci, rfl⟩ := H.wants.shape
  obtain ⟨aa, ca, rfl⟩ := H.asked.shape
  have HX := Lib.hid H
  have HO := Lib.hid ho
  have K0 := K2.new w s (.slice an s.names.length cn) (.slice ai s.wants.length ci) (.slice aa s.asked.length ca)
  unfold rv
  have g2 : (0 : Int) < s.state := by omega
  clear H ho q1
  go_enter Try.func14, Try.ntmps14
  go_upto_region 1 with fail
  refine wp_gen (fun wx => K2 w wx w.heap.size s (.slice an s.names.length cn) (.slice ai s.wants.length ci) (.slice aa s.asked.length ca)) K0 ?_
  clear K0
  rintro w2 K2'
  have K := Lib.hid K2'
  have c4 : w2.cell? ⟨w.heap.size, 4, none⟩ = some (.int .i64 s.state) := K2'.own.cell 4 _ rfl
  have HRX := Lib.hid (HX.out.below K2'.bel)
  have HLT3 : w.heap.size + 1 < w2.heap.size := by obtain ⟨_, _, h2⟩ := K2'.res; exact h2.lt
  have RF := rfail_ok s (.slice an s.names.length cn) (.slice ai s.wants.length ci) (.slice aa s.asked.length ca) w2 HRX.out HO.out
  unfold rv at RF
  clear K2'
  go_wp2_with (first | refine load_blk K.out.own Try.underlying31 rfl keeper_size' rfl rfl rfl rfl ?_)
  refine RF.mono ?_
  rintro e w3 ⟨vi', rfl, hr, hn, hb⟩
  have K3 := K.out.below hb
  clear RF c4 K
  obtain ⟨ai', ci', rfl⟩ := hr.wants.shape
  obtain ⟨cs, hcl, hcs⟩ := K3.res
  have HCS := Lib.hid hcs
  have HCL := Lib.hid hcl
  have hone := kc_one s.fail an ai' none s.names.length cn s.fail.wants.length ci' 0 0
  have KR := Lib.hid (K3.row (cs := kcells s.fail (.slice an s.names.length cn) (.slice ai' s.fail.wants.length ci') (.slice none 0 0)) rfl)
  have K9 := Lib.hid (hcs.setRow (kcells s.fail (.slice an s.names.length cn) (.slice ai' s.fail.wants.length ci') (.slice none 0 0)))
  have KP := Keeps.row w3 (w.heap.size + 1) (kcells s.fail (.slice an s.names.length cn) (.slice ai' s.fail.wants.length ci') (.slice none 0 0)).toArray
  have RR := Lib.hid (hr.keeps KP (fun g hg e => by have := HX.out.names.lt hg; omega) (fun g hg e => by have := hn g hg; omega) (fun g hg e => by simp [vblk] at hg))
  have NW := Lib.hid hn
  clear hr hn hb K3 hcs hcl KP
  go_wp2_with (first | refine store_blk HCS.out keeper_size' rfl HCL.out hone rfl rfl rfl rfl ?_)
  refine K2.ret K9.out rfl rfl rfl rfl ?_
  exact ⟨_, _, _, rfl, ⟨RR.out, Sg.nil _ _, fun g h => .inr (by have := NW.out g h; omega), fun g h => by simp [vblk] at h, fun g h => by simp [vblk] at h, KR.out.bel⟩⟩
set_option maxHeartbeats 4000000 in
set_option maxRecDepth 100000 in
theorem rtold_entered (s : KS) (vn vi va : Value) (w : World) (H : RX w s vn vi va) (ho : s.Ok) (q1 : s.state = 1) :
    Calls Try.prog 14 #[rv s vn vi va, .int .i64 1] w fun e w' => ∃ vi' va' vo, e = .returned (.tuple #[rv (s.entered.askAt (fun _ => true) s.entered.names.length) vn vi' va', vo]) ∧ RDid w w' (s.entered.askAt (fun _ => true) s.entered.names.length) vn vi va vi' va' vo (s.entered.askN (fun _ => true) s.entered.names.length).2.2 := by
  obtain ⟨an, cn, rfl⟩ := H.names.shape
  obtain ⟨ai, ci, rfl⟩ := H.wants.shape
  obtain ⟨aa, ca, rfl⟩ := H.asked.shape
  have HX := Lib.hid H
  have HO := Lib.hid ho
  have K0 := K2.new w s (.slice an s.names.length cn) (.slice ai s.wants.length ci) (.slice aa s.asked.length ca)
  have HNW := Lib.hid ho.names
  have HFEW := Lib.hid ho.few
  have HAL := Lib.hid ho.asked
  unfold rv
  clear H ho
  go_enter Try.func14, Try.ntmps14
  go_upto_region 1 with fail
  refine wp_gen (fun wx => K2 w wx w.heap.size s (.slice an s.names.length cn) (.slice ai s.wants.length ci) (.slice aa s.asked.length ca)) K0 ?_
  clear K0
  rintro w2 K2'
  have K := Lib.hid K2'
  have c4 : w2.cell? ⟨w.heap.size, 4, none⟩ = some (.int .i64 s.state) := K2'.own.cell 4 _ rfl
  have c5 : w2.cell? ⟨w.heap.size, 5, none⟩ = some (.int .i64 s.clock) := K2'.own.cell 5 _ rfl
  have c6 : w2.cell? ⟨w.heap.size, 6, none⟩ = some (.int .i64 s.since) := K2'.own.cell 6 _ rfl
  have c8 : w2.cell? ⟨w.heap.size, 8, none⟩ = some (.int .i64 s.fails) := K2'.own.cell 8 _ rfl
  rw [q1] at c4
  have f4 := K2'.own.free 4
  have f6 := K2'.own.free 6
  have f8 := K2'.own.free 8
  have K3 := Lib.hid (((K2'.num 4 (.int .i64 2) { s with state := 2 } (.slice an s.names.length cn) (.slice ai s.wants.length ci) (.slice aa s.asked.length ca) rfl).num 6 (.int .i64 s.clock) { s with state := 2, since := s.clock } (.slice an s.names.length cn) (.slice ai s.wants.length ci) (.slice aa s.asked.length ca) rfl).num 8 (.int .i64 0) s.entered (.slice an s.names.length cn) (.slice ai s.wants.length ci) (.slice aa s.asked.length ca) rfl)
  clear K2' K q1
  go_upto_region 5 with fail
  refine wp_gen (fun wx => K2 w wx w.heap.size s.entered (.slice an s.names.length cn) (.slice ai s.wants.length ci) (.slice aa s.asked.length ca)) K3.out ?_
  clear K3 c4 c5 c6 c8 f4 f6 f8
  rintro w3 k3
  have K := Lib.hid k3
  have RX5 := Lib.hid (show RX w3 s.entered (.slice an s.names.length cn) (.slice ai s.wants.length ci) (.slice aa s.asked.length ca) from ⟨(HX.out.below k3.bel).names, (HX.out.below k3.bel).wants, (HX.out.below k3.bel).asked⟩)
  have HLT3 : w.heap.size + 1 < w3.heap.size := by obtain ⟨_, _, h2⟩ := k3.res; exact h2.lt
  have RA' := rask_ok s.entered (.slice an s.names.length cn) (.slice ai s.wants.length ci) (.slice aa s.asked.length ca) w3 RX5.out HNW.out HFEW.out HAL.out 3 (fun _ => true) (.inl ⟨rfl, rfl⟩)
  obtain ⟨s', hs'⟩ : ∃ s', s' = s.entered.askAt (fun _ => true) s.entered.names.length := ⟨_, rfl⟩
  obtain ⟨L, hL⟩ : ∃ L, L = (s.entered.askN (fun _ => true) s.entered.names.length).2.2 := ⟨_, rfl⟩
  rw [← hs', ← hL] at RA'
  have hsn : s'.names = s.names := by rw [hs']; rfl
  have HSN := Lib.hid hsn
  have HS' := Lib.hid hs'
  have HL := Lib.hid hL
  unfold rv at RA'
  clear k3 hs' hL hsn
  go_wp2_with (first | refine load_blk K.out.own Try.underlying31 rfl keeper_size' rfl rfl rfl rfl ?_)
  refine RA'.mono ?_
  rintro e w6 ⟨vi', va', vo, rfl, hr, so, ni, na, no, hb⟩
  have k6 := K.out.below hb
  obtain ⟨ai', ci', rfl⟩ := hr.wants.shape
  obtain ⟨aa', ca', rfl⟩ := hr.asked.shape
  have hone := kc_one s' an ai' aa' s.names.length cn s'.wants.length ci' s'.asked.length ca'
  obtain ⟨cs, hcl, hcs⟩ := k6.res
  have HCS := Lib.hid hcs
  have HCL := Lib.hid hcl
  have KR := Lib.hid (k6.row (cs := kcells s' (.slice an s.names.length cn) (.slice ai' s'.wants.length ci') (.slice aa' s'.asked.length ca')) rfl)
  have K9 := Lib.hid (hcs.setRow (kcells s' (.slice an s.names.length cn) (.slice ai' s'.wants.length ci') (.slice aa' s'.asked.length ca')))
  have KP := Keeps.row w6 (w.heap.size + 1) (kcells s' (.slice an s.names.length cn) (.slice ai' s'.wants.length ci') (.slice aa' s'.asked.length ca')).toArray
  have NI := Lib.hid ni
  have NA := Lib.hid na
  have NO := Lib.hid no
  have SO := Lib.hid (so.keeps KP (fun g hg e => by have := no g hg; omega))
  have SI := Lib.hid (hr.wants.keeps KP (fun g hg e => by have := ni g hg; omega))
  have SJ := Lib.hid (hr.asked.keeps KP (fun g hg e => by have := na g hg; omega))
  clear hr so ni na no hb KP K RX5 RA' k6 hcs hcl
  go_wp2_with (first | refine store_blk HCS.out keeper_size' rfl HCL.out hone rfl rfl rfl rfl ?_)
  refine K2.ret K9.out rfl rfl rfl rfl ?_
  have x0 := HX.out.names.below KR.out.bel
  rw [show s.entered.askAt (fun _ => true) s.entered.names.length = s' from HS'.out.symm, show (s.entered.askN (fun _ => true) s.entered.names.length).2.2 = L from HL.out.symm]
  exact ⟨_, _, _, rfl, ⟨⟨by rw [HSN.out]; exact x0, SI.out, SJ.out⟩, SO.out, fun g h => .inr (by have := NI.out g h; omega), fun g h => .inr (by have := NA.out g h; omega), fun g h => by have := NO.out g h; omega, KR.out.bel⟩⟩
end Go.Proofs.Ytaenfkekdhnakaa
