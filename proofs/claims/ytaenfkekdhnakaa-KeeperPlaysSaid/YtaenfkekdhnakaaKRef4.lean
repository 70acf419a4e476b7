/-
The document's Tick, walked: it connects, hangs up, sends a beat.
-/
import Derived.Test.YtaenfkekdhnakaaKRef3
namespace Go.Proofs.Ytaenfkekdhnakaa
open Go.RowKit

theorem Blk.le1 {w : World} {b : Nat} {t : TypeId} {cs : List Value} (h : Blk w b t cs) : b < w.heap.size := h.lt
set_option maxHeartbeats 4000000 in
set_option maxRecDepth 100000 in
theorem rtick_connect (s : KS) (vn vi va : Value) (w : World) (H : RX w s vn vi va) (ho : s.Ok) (hc : s.clock < 1000000000000) (q1 : s.state = 0) (q2 : s.due ≤ s.clock + 1) :
    Calls Try.prog 12 #[rv s vn vi va] w fun e w' => ∃ vi' va' vo, e = .returned (.tuple #[rv { s with clock := s.clock + 1, state := 1, since := s.clock + 1 } vn vi' va', vo]) ∧ RDid w w' { s with clock := s.clock + 1, state := 1, since := s.clock + 1 } vn vi va vi' va' vo [(1, emp)] := by
  obtain ⟨an, cn, rfl⟩ := H.names.shape
  obtain ⟨ai, ci, rfl⟩ := H.wants.shape
  obtain ⟨aa, ca, rfl⟩ := H.asked.shape
  have HX := Lib.hid H
  have HO := Lib.hid ho
  have h3 := ho.most2
  have h4 := ho.beat2
  have h5 := ho.since
  have K0 := K2.new w s (.slice an s.names.length cn) (.slice ai s.wants.length ci) (.slice aa s.asked.length ca)
  unfold rv
  clear H ho
  go_enter Try.func12, Try.ntmps12
  go_upto_region 1 with fail
  refine wp_gen (fun wx => K2 w wx w.heap.size s (.slice an s.names.length cn) (.slice ai s.wants.length ci) (.slice aa s.asked.length ca)) K0 ?_
  clear K0
  rintro w1 K1
  have c5 := K1.own.cell 5 _ rfl
  have f5 := K1.own.free 5
  have K20 := K1.num 5 (.int .i64 (s.clock + 1)) s.tick1 (.slice an s.names.length cn) (.slice ai s.wants.length ci) (.slice aa s.asked.length ca) (by simp [kcells, KS.tick1])
  go_upto_region 2 with fail
  refine wp_gen (fun wx => K2 w wx w.heap.size s.tick1 (.slice an s.names.length cn) (.slice ai s.wants.length ci) (.slice aa s.asked.length ca)) K20 ?_
  clear c5 f5 K20 K1
  rintro w2 K2'
  have K := Lib.hid K2'
  have c2 : w2.cell? ⟨w.heap.size, 2, none⟩ = some (.int .i64 s.most) := K2'.own.cell 2 _ rfl
  have c3 : w2.cell? ⟨w.heap.size, 3, none⟩ = some (.int .i64 s.beat) := K2'.own.cell 3 _ rfl
  have c4 : w2.cell? ⟨w.heap.size, 4, none⟩ = some (.int .i64 s.state) := K2'.own.cell 4 _ rfl
  have c5 : w2.cell? ⟨w.heap.size, 5, none⟩ = some (.int .i64 ((s.clock : Int) + 1)) := K2'.own.cell 5 _ rfl
  have c6 : w2.cell? ⟨w.heap.size, 6, none⟩ = some (.int .i64 s.since) := K2'.own.cell 6 _ rfl
  have c7 : w2.cell? ⟨w.heap.size, 7, none⟩ = some (.int .i64 s.due) := K2'.own.cell 7 _ rfl
  have c10 : w2.cell? ⟨w.heap.size, 10, none⟩ = some (.slice aa s.asked.length ca) := K2'.own.cell 10 _ rfl
  have f4 := K2'.own.free 4
  have f6 := K2'.own.free 6
  have k3 := (K2'.num 4 (.int .i64 1) { s.tick1 with state := 1 } (.slice an s.names.length cn) (.slice ai s.wants.length ci) (.slice aa s.asked.length ca) rfl).num 6 (.int .i64 (s.clock + 1)) { s with clock := s.clock + 1, state := 1, since := s.clock + 1 } (.slice an s.names.length cn) (.slice ai s.wants.length ci) (.slice aa s.asked.length ca) (by simp [kcells, KS.tick1])
  have K3 := Lib.hid k3
  rw [q1] at c4
  clear K2' k3 K q1
  go_upto_region 7 with fail
  refine wp_gen (fun wx => K2 w wx w.heap.size { s with clock := s.clock + 1, state := 1, since := s.clock + 1 } (.slice an s.names.length cn) (.slice ai s.wants.length ci) (.slice aa s.asked.length ca)) K3.out ?_
  clear K3 c2 c3 c4 c5 c6 c7 c10 f4 f6
  rintro w3 k3
  have K := Lib.hid k3
  have k4 := k3.below (below1 w3 (.cells #[.int .i64 (1 : Nat), .string ⟨#[]⟩] 45))
  have S4 := Lib.hid (lit_acts w3 45 1 emp)
  have K4 := Lib.hid k4
  obtain ⟨cs, hcl, hcs⟩ := k4.res
  have HCS := Lib.hid hcs
  have HCL := Lib.hid hcl
  have hone := kc_one { s with clock := s.clock + 1, state := 1, since := s.clock + 1 } an ai aa s.names.length cn s.wants.length ci s.asked.length ca
  have KR := Lib.hid (k4.row (cs := kcells { s with clock := s.clock + 1, state := 1, since := s.clock + 1 } (.slice an s.names.length cn) (.slice ai s.wants.length ci) (.slice aa s.asked.length ca)) rfl)
  have K9 := Lib.hid (hcs.setRow (kcells { s with clock := s.clock + 1, state := 1, since := s.clock + 1 } (.slice an s.names.length cn) (.slice ai s.wants.length ci) (.slice aa s.asked.length ca)))
  have SR := Lib.hid (S4.out.keeps (Keeps.row _ (w.heap.size + 1) (kcells { s with clock := s.clock + 1, state := 1, since := s.clock + 1 } (.slice an s.names.length cn) (.slice ai s.wants.length ci) (.slice aa s.asked.length ca)).toArray) (fun g hg e => by
    have h1 := hcs.lt
    obtain ⟨_, _, h2⟩ := k3.res
    have h3 := h2.lt
    simp [vblk] at hg
    omega))
  have HLT := Lib.hid k3.own.lt
  clear k3 k4 hcs hcl S4
  go_wp2_with (first | refine load_blk K.out.own Try.underlying31 rfl keeper_size' rfl rfl rfl rfl ?_ | refine store_blk HCS.out keeper_size' rfl HCL.out hone rfl rfl rfl rfl ?_)
  refine K2.ret K9.out rfl rfl rfl rfl ?_
  have r := HX.out.below KR.out.bel
  exact ⟨_, _, _, rfl, ⟨⟨r.names, r.wants, r.asked⟩, SR.out, fun _ h => .inl h, fun _ h => .inl h, fun g h => by have := HLT.out; simp [vblk] at h; omega, KR.out.bel⟩⟩
set_option maxHeartbeats 4000000 in
set_option maxRecDepth 100000 in
theorem rtick_hang (s : KS) (vn vi va : Value) (w : World) (H : RX w s vn vi va) (ho : s.Ok) (hc : s.clock < 1000000000000) (hcase : (s.state = 1 ∧ s.since + s.most ≤ s.clock + 1) ∨ (s.state = 2 ∧ s.since + s.beat ≤ s.clock + 1 ∧ s.asked ≠ [])) :
    Calls Try.prog 12 #[rv s vn vi va] w fun e w' => ∃ vi' va' vo, e = .returned (.tuple #[rv s.tick1.fail vn vi' va', vo]) ∧ RDid w w' s.tick1.fail vn vi va vi' va' vo [(4, emp)] := by
  obtain ⟨an, cn, rfl⟩ := H.names.shape
  obtain ⟨ai, ci, rfl⟩ := H.wants.shape
  obtain ⟨aa, ca, rfl⟩ := H.asked.shape
  have HX := Lib.hid H
  have HO := Lib.hid ho
  have h3 := ho.most2
  have h4 := ho.beat2
  have h5 := ho.since
  have K0 := K2.new w s (.slice an s.names.length cn) (.slice ai s.wants.length ci) (.slice aa s.asked.length ca)
  unfold rv
  clear H ho
  go_enter Try.func12, Try.ntmps12
  go_upto_region 1 with fail
  refine wp_gen (fun wx => K2 w wx w.heap.size s (.slice an s.names.length cn) (.slice ai s.wants.length ci) (.slice aa s.asked.length ca)) K0 ?_
  clear K0
  rintro w1 K1
  have c5 := K1.own.cell 5 _ rfl
  have f5 := K1.own.free 5
  have K20 := K1.num 5 (.int .i64 (s.clock + 1)) s.tick1 (.slice an s.names.length cn) (.slice ai s.wants.length ci) (.slice aa s.asked.length ca) (by simp [kcells, KS.tick1])
  go_upto_region 2 with fail
  refine wp_gen (fun wx => K2 w wx w.heap.size s.tick1 (.slice an s.names.length cn) (.slice ai s.wants.length ci) (.slice aa s.asked.length ca)) K20 ?_
  clear c5 f5 K20 K1
  rintro w2 K2'
  have K := Lib.hid K2'
  have c2 : w2.cell? ⟨w.heap.size, 2, none⟩ = some (.int .i64 s.most) := K2'.own.cell 2 _ rfl
  have c3 : w2.cell? ⟨w.heap.size, 3, none⟩ = some (.int .i64 s.beat) := K2'.own.cell 3 _ rfl
  have c4 : w2.cell? ⟨w.heap.size, 4, none⟩ = some (.int .i64 s.state) := K2'.own.cell 4 _ rfl
  have c5 : w2.cell? ⟨w.heap.size, 5, none⟩ = some (.int .i64 ((s.clock : Int) + 1)) := K2'.own.cell 5 _ rfl
  have c6 : w2.cell? ⟨w.heap.size, 6, none⟩ = some (.int .i64 s.since) := K2'.own.cell 6 _ rfl
  have c7 : w2.cell? ⟨w.heap.size, 7, none⟩ = some (.int .i64 s.due) := K2'.own.cell 7 _ rfl
  have c10 : w2.cell? ⟨w.heap.size, 10, none⟩ = some (.slice aa s.asked.length ca) := K2'.own.cell 10 _ rfl
  have HRX := Lib.hid (show RX w2 s.tick1 (.slice an s.names.length cn) (.slice ai s.wants.length ci) (.slice aa s.asked.length ca) from ⟨(HX.out.below K2'.bel).names, (HX.out.below K2'.bel).wants, (HX.out.below K2'.bel).asked⟩)
  have OK1 := Lib.hid (Ok.tick1 HO.out hc)
  have HLT3 : w.heap.size + 1 < w2.heap.size := by obtain ⟨_, _, h2⟩ := K2'.res; exact h2.lt
  have RF := rfail_ok s.tick1 (.slice an s.names.length cn) (.slice ai s.wants.length ci) (.slice aa s.asked.length ca) w2 HRX.out OK1.out
  unfold rv at RF
  have hcase2 : (s.state = 1 ∧ s.since + s.most ≤ s.clock + 1) ∨ (s.state = 2 ∧ s.since + s.beat ≤ s.clock + 1 ∧ 0 < s.asked.length) := hcase.imp id (fun h => ⟨h.1, h.2.1, List.length_pos_iff.2 h.2.2⟩)
  clear K2' hcase
  rcases hcase2 with ⟨q1, q2⟩ | ⟨q1, q2, q3⟩
  all_goals
    rw [q1] at c4
    have q4 := q2
    clear q1 q2
    go_wp2_with (first | refine load_blk K.out.own Try.underlying31 rfl keeper_size' rfl rfl rfl rfl ?_)
    refine RF.mono ?_
    rintro e w3 ⟨vi', rfl, hr, hn, hb⟩
    have K3 := K.out.below hb
    clear RF c2 c3 c4 c5 c6 c7 c10 K
    obtain ⟨ai', ci', rfl⟩ := hr.wants.shape
    have k4 := K3.below (below1 w3 (.cells #[.int .i64 (4 : Nat), .string ⟨#[]⟩] 45))
    have S4 := Lib.hid (lit_acts w3 45 4 emp)
    obtain ⟨cs, hcl, hcs⟩ := k4.res
    have HCS := Lib.hid hcs
    have HCL := Lib.hid hcl
    have hone := kc_one s.tick1.fail an ai' none s.names.length cn s.tick1.fail.wants.length ci' 0 0
    have KR := Lib.hid (k4.row (cs := kcells s.tick1.fail (.slice an s.names.length cn) (.slice ai' s.tick1.fail.wants.length ci') (.slice none 0 0)) rfl)
    have K9 := Lib.hid (hcs.setRow (kcells s.tick1.fail (.slice an s.names.length cn) (.slice ai' s.tick1.fail.wants.length ci') (.slice none 0 0)))
    have KP := Keeps.row (w3.alloc (.cells #[.int .i64 (4 : Nat), .string ⟨#[]⟩] 45)) (w.heap.size + 1) (kcells s.tick1.fail (.slice an s.names.length cn) (.slice ai' s.tick1.fail.wants.length ci') (.slice none 0 0)).toArray
    have HLT := K3.own.lt
    have HLT2 : w.heap.size + 1 < w3.heap.size := by obtain ⟨_, _, h2⟩ := K3.res; exact h2.lt
    have SR := Lib.hid (S4.out.keeps KP (fun g hg e => by simp [vblk] at hg; omega))
    have RR : Hid (RX _ s.tick1.fail (.slice an s.names.length cn) (.slice ai' s.tick1.fail.wants.length ci') (.slice none 0 0)) := Lib.hid ((hr.below (below1 w3 (.cells #[.int .i64 (4 : Nat), .string ⟨#[]⟩] 45))).keeps KP (fun g hg e => by have := HX.out.names.lt hg; omega) (fun g hg e => by have := hn g hg; omega) (fun g hg e => by simp [vblk] at hg))
    have NW := Lib.hid hn
    clear hr hn hb K3 k4 hcs hcl S4 KP
    go_wp2_with (first | refine store_blk HCS.out keeper_size' rfl HCL.out hone rfl rfl rfl rfl ?_)
    refine K2.ret K9.out rfl rfl rfl rfl ?_
    exact ⟨_, _, _, rfl, ⟨RR.out, SR.out, fun g h => .inr (by have := NW.out g h; omega), fun g h => by simp [vblk] at h, fun g h => by simp [vblk] at h; omega, KR.out.bel⟩⟩
end Go.Proofs.Ytaenfkekdhnakaa
