/-
The document's Tick, walked.
-/
import Derived.Test.YtaenfkekdhnakaaKRef2
namespace Go.Proofs.Ytaenfkekdhnakaa
open Go.RowKit

/-- what a call of the document's keeper gave -/
structure RDid (w w' : World) (s' : KS) (vn vi va vi' va' vo : Value) (acts : List (Nat × ByteArray)) : Prop where
  rx : RX w' s' vn vi' va'
  out : Sg w' 2 vo acts.length (avals acts)
  ni : ∀ g, vblk vi' = some g → vblk vi = some g ∨ w.heap.size ≤ g
  na : ∀ g, vblk va' = some g → vblk va = some g ∨ w.heap.size ≤ g
  no : ∀ g, vblk vo = some g → w.heap.size ≤ g
  bel : Below w.heap.size w w'
theorem K2.row {w wx : World} {b : Nat} {s : KS} {vn vi va : Value} {cs : List Value} (h : K2 w wx b s vn vi va) (hc : cs.length = 11) : K2 w (wx.setRow (b + 1) cs.toArray) b s vn vi va := by
  obtain ⟨c, hl, hr⟩ := h.res
  exact ⟨h.own.farRow (by omega) _, ⟨cs, hc, hr.setRow cs⟩, below_row h.bel _ _ (by have := h.lo; omega), h.lo⟩
/-- at the return: the keeper stored into the result -/
theorem K2.ret {fn : Func} {R : Ending → World → Prop} {a : Act} {w wx : World} {s : KS} {vn vi va vo : Value} {p u : Tmp}
    (h : Blk wx (w.heap.size + 1) 31 (kcells s vn vi va)) (hf : fn.results = #[.cell p 31, .tmp u]) (hp : a.tmps.getD p undef = .pointer (some ⟨w.heap.size + 1, 0, none⟩)) (hdf : a.defers = []) (hv : a.tmps.getD u undef = vo)
    (hR : R (.returned (.tuple #[rv s vn vi va, vo])) wx) : bodyPost Try.prog fn R .ret a wx :=
  ret_stru2 hf h Try.underlying31 rfl keeper_size' rfl hp hdf hv hR

set_option maxHeartbeats 4000000 in
set_option maxRecDepth 100000 in
theorem rtick_quiet (s : KS) (vn vi va : Value) (w : World) (H : RX w s vn vi va) (ho : s.Ok) (hc : s.clock < 1000000000000)
    (hcase : (s.state = 0 ∧ s.clock + 1 < s.due) ∨ (s.state = 1 ∧ s.clock + 1 < s.since + s.most) ∨ (s.state = 2 ∧ s.clock + 1 < s.since + s.beat)) :
    Calls Try.prog 12 #[rv s vn vi va] w fun e w' => ∃ vi' va' vo, e = .returned (.tuple #[rv s.tick1 vn vi' va', vo]) ∧ RDid w w' s.tick1 vn vi va vi' va' vo [] := by
  obtain ⟨an, cn, rfl⟩ := H.names.shape
  obtain ⟨ai, ci, rfl⟩ := H.wants.shape
  obtain ⟨aa, ca, rfl⟩ := H.asked.shape
  have HX := Lib.hid H
  have h3 := ho.most2
  have h4 := ho.beat2
  have h5 := ho.since
  have K0 := K2.new w s (.slice an s.names.length cn) (.slice ai s.wants.length ci) (.slice aa s.asked.length ca)
  unfold rv
  clear H ho
  go_enter Try.func12, Try.ntmps12
  go_upto_region 1 with fail
  refine wp_gen (fun wx => K2 w wx w.heap.size s (.slice an s.names.length cn) (.slice ai s.wants.length ci) (.slice aa s.asked.length ca)) K0 ?_
  clear K0
  rintro w1 K1
  have c5 := K1.own.cell 5 _ rfl
  have f5 := K1.own.free 5
  have K20 := K1.num 5 (.int .i64 (s.clock + 1)) s.tick1 (.slice an s.names.length cn) (.slice ai s.wants.length ci) (.slice aa s.asked.length ca) (by simp [kcells, KS.tick1])
  go_upto_region 2 with fail
  refine wp_gen (fun wx => K2 w wx w.heap.size s.tick1 (.slice an s.names.length cn) (.slice ai s.wants.length ci) (.slice aa s.asked.length ca)) K20 ?_
  clear c5 f5 K20 K1
  rintro w2 K2'
  have K := Lib.hid K2'
  have c2 : w2.cell? ⟨w.heap.size, 2, none⟩ = some (.int .i64 s.most) := K2'.own.cell 2 _ rfl
  have c3 : w2.cell? ⟨w.heap.size, 3, none⟩ = some (.int .i64 s.beat) := K2'.own.cell 3 _ rfl
  have c4 : w2.cell? ⟨w.heap.size, 4, none⟩ = some (.int .i64 s.state) := K2'.own.cell 4 _ rfl
  have c5 : w2.cell? ⟨w.heap.size, 5, none⟩ = some (.int .i64 ((s.clock : Int) + 1)) := K2'.own.cell 5 _ rfl
  have c6 : w2.cell? ⟨w.heap.size, 6, none⟩ = some (.int .i64 s.since) := K2'.own.cell 6 _ rfl
  have c7 : w2.cell? ⟨w.heap.size, 7, none⟩ = some (.int .i64 s.due) := K2'.own.cell 7 _ rfl
  obtain ⟨cs, hcl, hcs⟩ := K2'.res
  have HCS := Lib.hid hcs
  have HCL := Lib.hid hcl
  have hone := kc_one s.tick1 an ai aa s.names.length cn s.wants.length ci s.asked.length ca
  have KR := Lib.hid (K2'.row (cs := kcells s.tick1 (.slice an s.names.length cn) (.slice ai s.wants.length ci) (.slice aa s.asked.length ca)) rfl)
  have K9 := Lib.hid (hcs.setRow (kcells s.tick1 (.slice an s.names.length cn) (.slice ai s.wants.length ci) (.slice aa s.asked.length ca)))
  have FIN : Hid (∀ wx, K2 w wx w.heap.size s.tick1 (.slice an s.names.length cn) (.slice ai s.wants.length ci) (.slice aa s.asked.length ca) →
      ∃ vi' va' vo, Ending.returned (.tuple #[rv s.tick1 (.slice an s.names.length cn) (.slice ai s.wants.length ci) (.slice aa s.asked.length ca), .slice none 0 0]) = .returned (.tuple #[rv s.tick1 (.slice an s.names.length cn) vi' va', vo]) ∧
        RDid w wx s.tick1 (.slice an s.names.length cn) (.slice ai s.wants.length ci) (.slice aa s.asked.length ca) vi' va' vo []) := Lib.hid fun wx h =>
    ⟨_, _, _, rfl, ⟨⟨(HX.out.below h.bel).names, (HX.out.below h.bel).wants, (HX.out.below h.bel).asked⟩, Sg.nil _ _, fun _ h => .inl h, fun _ h => .inl h, fun g h => by simp [vblk] at h, h.bel⟩⟩
  clear K2' hcs hcl
  rcases hcase with ⟨q1, q2⟩ | ⟨q1, q2⟩ | ⟨q1, q2⟩
  all_goals
    rw [q1] at c4
    have q3 := q2
    clear q1 q2
    go_wp2_with (first | refine load_blk K.out.own Try.underlying31 rfl keeper_size' rfl rfl rfl rfl ?_ | refine store_blk HCS.out keeper_size' rfl HCL.out hone rfl rfl rfl rfl ?_)
    refine K2.ret K9.out rfl rfl rfl rfl ?_
    exact FIN.out _ KR.out
end Go.Proofs.Ytaenfkekdhnakaa
