/-
The document's keeper, walked: fail, ask, Tick, Told, Held.
-/
import Derived.Test.YtaenfkekdhnakaaKRNew
import Derived.Test.YtaenfkekdhnakaaQT
import Derived.Laws.ResultCell
import Derived.Deep.OwnRows
namespace Go.Proofs.Ytaenfkekdhnakaa
open Go.RowKit

/-- a struct and a slot returned -/
theorem ret_stru2 {P : Program} {fn : Func} {R : Ending → World → Prop} {a : Act} {w : World} {p u : Tmp} {ty n : Nat} {d : TypeDesc} {b : Nat} {t : TypeId} {cs : List Value} (h : fn.results = #[.cell p ty, .tmp u]) (hb : Blk w b t cs)
    (hu : P.underlying ty = some d) (hd : wide d = true) (hi : (P.info? ty).map (·.size) = some n) (hn : cs.length = n) (hp : a.tmps.getD p undef = .pointer (some ⟨b, 0, none⟩)) (hdf : a.defers = []) {v : Value} (hv : a.tmps.getD u undef = v)
    (hR : R (.returned (.tuple #[.agg cs.toArray, v])) w) : bodyPost P fn R .ret a w := by
  refine bodyPost_ret (v := .tuple #[.agg cs.toArray, v]) ?_ hdf hR
  have hp' : a.tmps[p]?.getD undef = .pointer (some ⟨b, 0, none⟩) := by simpa using hp
  have hv' : a.tmps[u]?.getD undef = v := by simpa using hv
  simp [results, h, hp', hv', asAddr, run_loadVar_row w b t ty cs.toArray (0, 0) d hb hu (by cases d <;> first | rfl | cases hd) (by rw [hi]; simp [hn])]
theorem Keeps.row (w : World) (b : Nat) (v : Array Value) : Keeps (fun k => k = b) w (w.setRow b v) := ⟨rfl, rfl, rfl, by simp, fun k _ hk => setRow_other _ _ _ _ (by omega)⟩
theorem keeper_size' : (Try.prog.info? 31).map (·.size) = some 11 := by kernel_rfl
theorem kc_one (s : KS) (an ai aa : Option Addr) (ln cn li ci la ca : Nat) : ∀ v ∈ kcells s (.slice an ln cn) (.slice ai li ci) (.slice aa la ca), v.oneCell' = true := by
  intro v hv
  simp only [kcells, List.mem_cons, List.not_mem_nil, or_false] at hv
  rcases hv with rfl | rfl | rfl | rfl | rfl | rfl | rfl | rfl | rfl | rfl | rfl <;> rfl
/-- two keepers' blocks: the call's own, and its result's -/
structure K2 (w wx : World) (b : Nat) (s : KS) (vn vi va : Value) : Prop where
  own : Blk wx b 31 (kcells s vn vi va)
  res : ∃ cs, cs.length = 11 ∧ Blk wx (b + 1) 31 cs
  bel : Below w.heap.size w wx
  lo : w.heap.size ≤ b
theorem K2.below {w wx wy : World} {b : Nat} {s : KS} {vn vi va : Value} (h : K2 w wx b s vn vi va) (hb : Below wx.heap.size wx wy) : K2 w wy b s vn vi va := by
  obtain ⟨cs, hl, hr⟩ := h.res
  exact ⟨h.own.below hb h.own.lt, ⟨cs, hl, hr.below hb hr.lt⟩, h.bel.trans (hb.mono h.bel.size), h.lo⟩
theorem K2.num {w wx : World} {b : Nat} {s : KS} {vn vi va : Value} (h : K2 w wx b s vn vi va) (i : Nat) (v : Value) (s' : KS) (vn' vi' va' : Value) (e : (kcells s vn vi va).set i v = kcells s' vn' vi' va') : K2 w (wx.setCell ⟨b, i, none⟩ v) b s' vn' vi' va' := by
  obtain ⟨cs, hl, hr⟩ := h.res
  exact ⟨e ▸ h.own.set i v, ⟨cs, hl, hr.far (by omega) i v⟩, below_set' h.bel _ _ _ h.lo, h.lo⟩
theorem K2.new (w : World) (s : KS) (vn vi va : Value) : K2 w ((w.alloc (.cells (kcells s vn vi va).toArray 31)).alloc (.cells kzero.toArray 31)) w.heap.size s vn vi va :=
  ⟨(Blk.new w _ _).alloc _, ⟨kzero, rfl, Blk.new2 _ _ _ _⟩, below2 _ _ _, Nat.le_refl _⟩

set_option maxHeartbeats 4000000 in
set_option maxRecDepth 100000 in
theorem rfail_ok (s : KS) (vn vi va : Value) (w : World) (H : RX w s vn vi va) (ho : s.Ok) :
    Calls Try.prog 22 #[rv s vn vi va] w fun e w' => ∃ vi', e = .returned (rv s.fail vn vi' (.slice none 0 0)) ∧ RX w' s.fail vn vi' (.slice none 0 0) ∧ (∀ g, vblk vi' = some g → w.heap.size ≤ g) ∧ Below w.heap.size w w' := by
  obtain ⟨an, cn, rfl⟩ := H.names.shape
  obtain ⟨ai, ci, rfl⟩ := H.wants.shape
  obtain ⟨aa, ca, rfl⟩ := H.asked.shape
  have HX := Lib.hid H
  have HO := Lib.hid ho
  have h1 := ho.first1
  have h2 := ho.most1
  have h3 := ho.most2
  have h4 := ho.fails
  have h5 := ho.clock
  have h6 := ho.few
  have K0 := K2.new w s (.slice an s.names.length cn) (.slice ai s.wants.length ci) (.slice aa s.asked.length ca)
  unfold rv
  clear H ho
  go_enter Try.func22, Try.ntmps22
  go_upto_region 1 with fail
  refine wp_gen (fun wx => K2 w wx w.heap.size s (.slice an s.names.length cn) (.slice ai s.wants.length ci) (.slice aa s.asked.length ca)) K0 ?_
  clear K0
  rintro w1 K1
  have c4 := K1.own.cell 4 _ rfl
  have f4 := K1.own.free 4
  have K20 := K1.num 4 (.int .i64 0) { s with state := 0 } _ _ _ rfl
  go_upto_region 2 with fail
  refine wp_gen (fun wx => K2 w wx w.heap.size { s with state := 0 } (.slice an s.names.length cn) (.slice ai s.wants.length ci) (.slice aa s.asked.length ca)) K20 ?_
  clear c4 f4 K20 K1
  rintro w2 K1
  have KD := Lib.hid (K1.below (below_drewN (Below.refl _ _) 1))
  have WT := fun w' => wait_ok { s with state := 0 } an ai aa s.names.length cn s.wants.length ci s.asked.length ca s.fails w' h4 h1 h2 h3
  have hw : s.wait s.fails ≤ 1048576 := Nat.le_trans (Nat.min_le_right _ _) h3
  have hwe : ({ s with state := 0 } : KS).wait s.fails = s.wait s.fails := rfl
  rw [hwe] at WT
  unfold rv at WT
  obtain ⟨wt, hwt⟩ : ∃ wt, wt = s.wait s.fails := ⟨_, rfl⟩
  rw [← hwt] at hw WT
  have HWT := Lib.hid hwt
  clear hwt
  have ew : IntKind.i64.wrap ((s.clock : Int) + wt) = s.clock + wt := IntWalk.i64_in _ (by omega)
  clear hwe K1
  (refine wp_region_quiet_tail (C := fun w' => Below w2.drew.heap.size w2.drew w') 8 (by kernel_rfl) (by kernel_rfl) (Below.refl _ _) ?_; simp only [List.take_succ_cons, List.take_zero, List.drop_succ_cons, List.drop_zero])
  ((with_reducible refine wpQuiet_step (fun K hK => ?_)); refine quiet_plainG (.pointer (some ⟨w.heap.size, 5, none⟩)) (by first | rfl | simp [Region.wanted, yielded]) (fun w' hw' => by go_simp) ?_; go_simp; (with_reducible apply hK); clear hK K)
  ((with_reducible refine wpQuiet_step (fun K hK => ?_)); refine quiet_plainG (.int .i64 s.clock) (by first | rfl | simp [Region.wanted, yielded]) (fun w' hw' => by have h := (KD.out.below hw').own.cell 5 _ rfl; go_simp; try simp [h]) ?_; go_simp; (with_reducible apply hK); clear hK K)
  ((with_reducible refine wpQuiet_step (fun K hK => ?_)); refine quiet_loadB (n := 11) (fun w' hw' => (KD.out.below hw').own) Try.underlying31 rfl keeper_size' rfl (by first | rfl | simp [Region.wanted, yielded]) rfl (by go_simp) ?_; go_simp; (with_reducible apply hK); clear hK K)
  ((with_reducible refine wpQuiet_step (fun K hK => ?_)); refine quiet_plainG (.pointer (some ⟨w.heap.size, 8, none⟩)) (by first | rfl | simp [Region.wanted, yielded]) (fun w' hw' => by go_simp) ?_; go_simp; (with_reducible apply hK); clear hK K)
  ((with_reducible refine wpQuiet_step (fun K hK => ?_)); refine quiet_plainG (.int .i64 s.fails) (by first | rfl | simp [Region.wanted, yielded]) (fun w' hw' => by have h := (KD.out.below hw').own.cell 8 _ rfl; go_simp; try simp [h]) ?_; go_simp; (with_reducible apply hK); clear hK K)
  ((with_reducible refine wpQuiet_step (fun K hK => ?_)); refine quiet_callG (.int .i64 wt) 18 #[.agg (kcells { s with state := 0 } (.slice an s.names.length cn) (.slice ai s.wants.length ci) (.slice aa s.asked.length ca)).toArray, .int .i64 s.fails] (by first | rfl | simp [Region.wanted, yielded]) (fun w' => by go_simp) (fun w' hw' => (WT w').mono (by rintro e w'' ⟨rfl, hb⟩; exact ⟨rfl, hw'.trans (hb.mono hw'.size)⟩)) ?_; go_simp; (with_reducible apply hK); clear hK K)
  ((with_reducible refine wpQuiet_step (fun K hK => ?_)); refine quiet_plainG (.int .i64 (s.clock + wt)) (by first | rfl | simp [Region.wanted, yielded]) (fun w' hw' => by go_simp) ?_; go_simp; (with_reducible apply hK); clear hK K)
  ((with_reducible refine wpQuiet_step (fun K hK => ?_)); refine quiet_plainG (.pointer (some ⟨w.heap.size, 7, none⟩)) (by first | rfl | simp [Region.wanted, yielded]) (fun w' hw' => by go_simp) ?_; go_simp; (with_reducible apply hK); clear hK K)
  refine wpQuiet_nil ?_
  intro w3 hw3
  have K3 := KD.out.below hw3
  clear KD WT ew hw3
  have c7 := K3.own.cell 7 _ rfl
  have f7 := K3.own.free 7
  have K30 := K3.num 7 (.int .i64 (s.clock + wt)) { s with state := 0, due := s.clock + wt } (.slice an s.names.length cn) (.slice ai s.wants.length ci) (.slice aa s.asked.length ca) rfl
  go_upto_region 3 with fail
  refine wp_gen (fun wx => K2 w wx w.heap.size { s with state := 0, due := s.clock + wt } (.slice an s.names.length cn) (.slice ai s.wants.length ci) (.slice aa s.asked.length ca)) K30 ?_
  clear c7 f7 K30 K3
  rintro w4 K4
  have c8 := K4.own.cell 8 _ rfl
  have f8 := K4.own.free 8
  obtain ⟨m, hm⟩ : ∃ m, m = min (s.fails + 1) 1048576 := ⟨_, rfl⟩
  go_upto_if 14 with fail
  go_cut [] (fun wx => Hid (K2 w wx w.heap.size { s with state := 0, due := s.clock + wt, fails := m } (.slice an s.names.length cn) (.slice ai s.wants.length ci) (.slice aa s.asked.length ca)))
  case first =>
    have hcs : (s.fails < 1048576 ∧ m = s.fails + 1) ∨ (s.fails = 1048576 ∧ m = s.fails) := by omega
    clear hm
    rcases hcs with ⟨q, e⟩ | ⟨q, e⟩
    · have KN := Lib.hid (K4.num 8 (.int .i64 (s.fails + 1)) { s with state := 0, due := s.clock + wt, fails := s.fails + 1 } (.slice an s.names.length cn) (.slice ai s.wants.length ci) (.slice aa s.asked.length ca) rfl)
      have g : decide ((s.fails : Int) < 1048576) = true := decide_eq_true (by omega)
      rw [g]
      subst e
      clear K4 q g
      go_wp2_with fail
      go_meet
      exact KN
    · have g : decide ((s.fails : Int) < 1048576) = false := decide_eq_false (by omega)
      rw [g]
      subst e
      have KN := Lib.hid K4
      clear q K4 g
      go_wp2_with fail
      go_meet
      exact KN
  case rest =>
  rename World => w5
  have K5 := hcut.out
  clear hcut
  clear c8 f8 K4
  have HM := Lib.hid hm
  clear hm
  have c10 := K5.own.cell 10 _ rfl
  have f10 := K5.own.free 10
  have K50 := K5.num 10 (.slice none 0 0) { s with state := 0, due := s.clock + wt, fails := m, asked := [] } (.slice an s.names.length cn) (.slice ai s.wants.length ci) (.slice none 0 0) rfl
  go_upto_region 6 with fail
  refine wp_gen (fun wx => K2 w wx w.heap.size { s with state := 0, due := s.clock + wt, fails := m, asked := [] } (.slice an s.names.length cn) (.slice ai s.wants.length ci) (.slice none 0 0)) K50 ?_
  clear c10 f10 K50 K5
  rintro w6 K6
  obtain ⟨n, hn⟩ : ∃ n, n = s.names.length := ⟨_, rfl⟩
  have hnw := HO.out.names
  have hmk := fun W => run_make_row' (P := Try.prog) 25 3 (.int .i64 0) 8 Try.underlying25 intInfo rfl .i64 .i64 n (by omega) (by omega) W
  have HN := Lib.hid hn
  have HNW := Lib.hid hnw
  have c0 := K6.own.cell 0 _ rfl
  have f9 := K6.own.free 9
  have hb6 : w.heap.size < w6.heap.size := K6.own.lt
  have hb7 : w.heap.size + 1 < w6.heap.size := by obtain ⟨_, _, h⟩ := K6.res; exact h.lt
  have c9 := K6.own.cell 9 _ rfl
  rw [← hn] at c0
  obtain ⟨w7, e7⟩ : ∃ w7, w7 = w6.setCell ⟨w.heap.size, 9, none⟩ (.slice (some ⟨w6.heap.size, 0, none⟩) n n) := ⟨_, rfl⟩
  have z7 : w7.heap.size = w6.heap.size := by rw [e7]; simp [World.setCell]
  have K7 : K2 w w7 w.heap.size s.fail (.slice an s.names.length cn) (.slice (some ⟨w6.heap.size, 0, none⟩) n n) (.slice none 0 0) := by
    rw [e7]
    refine K6.num 9 _ s.fail _ _ _ ?_
    unfold kcells KS.fail
    rw [HWT.out, HM.out]
    simp
  have hsg : Sg (w7.alloc (.cells (madeCells #[.int .i64 0] n) 3)) 1 (.slice (some ⟨w6.heap.size, 0, none⟩) n n) n (nvals (List.replicate n 0)) := by
    have hbw : Blk (w7.alloc (.cells (madeCells #[.int .i64 0] n) 3)) w7.heap.size 3 (List.replicate n (.int .i64 0)) := by
      rw [← made_one (.int .i64 0) n]
      simpa using Blk.new w7 3 (madeCells #[.int .i64 0] n).toList
    rw [z7] at hbw
    rw [show nvals (List.replicate n 0) = List.replicate n (.int .i64 0) by simp [nvals]]
    exact Sg.fresh hbw (by simp) (by unfold maxLen; omega)
  have FIN := Lib.hid (And.intro (K7.below (below1 w7 (.cells (madeCells #[.int .i64 0] n) 3))) hsg)
  have E7 := Lib.hid e7
  clear hsg K7 z7 e7 hn hnw K6
  go_upto_region 7 with fail
  rw [← E7.out]
  refine wp_gen (fun wx => K2 w wx w.heap.size s.fail (.slice an s.names.length cn) (.slice (some ⟨w6.heap.size, 0, none⟩) n n) (.slice none 0 0) ∧ Sg wx 1 (.slice (some ⟨w6.heap.size, 0, none⟩) n n) n (nvals (List.replicate n 0))) FIN.out ?_
  rintro w8 ⟨k8, s8⟩
  have K8 := Lib.hid k8
  have S8 := Lib.hid s8
  obtain ⟨cs, hcl, hcs⟩ := k8.res
  have HCS := Lib.hid hcs
  have HCL := Lib.hid hcl
  have hone := kc_one s.fail an (some ⟨w6.heap.size, 0, none⟩) none s.names.length cn n n 0 0
  have K9 := Lib.hid (hcs.setRow (kcells s.fail (.slice an s.names.length cn) (.slice (some ⟨w6.heap.size, 0, none⟩) n n) (.slice none 0 0)))
  have hb8 : Below w.heap.size w (w8.setRow (w.heap.size + 1) (kcells s.fail (.slice an s.names.length cn) (.slice (some ⟨w6.heap.size, 0, none⟩) n n) (.slice none 0 0)).toArray) := below_row k8.bel _ _ (by omega)
  have HB8 := Lib.hid hb8
  clear c0 c9 f9 hmk k8 s8 hcs hcl hb8 FIN
  go_wp2_with (first | refine load_blk K8.out.own Try.underlying31 rfl keeper_size' rfl rfl rfl rfl ?_ | refine store_blk HCS.out keeper_size' rfl HCL.out hone rfl rfl rfl rfl ?_)
  have hlt : ∀ g, vblk (Value.slice (some ⟨w6.heap.size, 0, none⟩) n n) = some g → w.heap.size + 1 < g ∧ g < w8.heap.size := fun g hg => by
    have h1 := S8.out.lt hg
    simp only [vblk] at hg
    split at hg
    · cases hg
    · simp at hg; omega
  refine ret_blk rfl K9.out Try.underlying31 rfl keeper_size' rfl rfl rfl ?_
  refine ⟨_, rfl, ⟨?_, ?_, ?_⟩, fun g hg => by have := hlt g hg; omega, HB8.out⟩
  · exact (HX.out.names.below HB8.out)
  · rw [show s.fail.wants = List.replicate s.wants.length 0 from rfl, List.length_replicate, ← HNW.out, ← HN.out]
    exact S8.out.keeps (Keeps.row w8 _ _) (fun g hg e => by have := hlt g hg; omega)
  · exact Sg.nil _ _
end Go.Proofs.Ytaenfkekdhnakaa
