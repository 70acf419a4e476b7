/-
A keeper's contracts: New.
-/
import Derived.Test.YtaenfkekdhnakaaKTold
namespace Go.Proofs.Ytaenfkekdhnakaa
open Go.RowKit

theorem told_ok (B b : Nat) (vn vw va : Value) (s : KS) (what : Int) (w : World) (hk : Kp w B b vn vw va s) (ho : s.Ok) (hB : B ≤ w.heap.size) :
    Calls Try.prog 15 #[.pointer (some ⟨b, 0, none⟩), .int .i64 what] w fun e w' => ∃ vo va', e = .returned vo ∧ Did w B b vn vw va w' vo va' (s.told what).1 (s.told what).2 := by
  unfold KS.told
  by_cases h1 : what = 1 ∧ s.state = 1
  · rw [if_pos h1]
    obtain ⟨rfl, h⟩ := h1
    exact told_entered B b vn vw va s w hk ho hB h
  · rw [if_neg h1]
    by_cases h2 : what = 2 ∧ s.state ≠ 0
    · rw [if_pos h2]
      obtain ⟨rfl, h⟩ := h2
      exact told_lost B b vn vw va s w hk ho h
    · rw [if_neg h2]
      by_cases h3 : (what = 3 ∨ what = 4) ∧ s.state = 2 ∧ s.asked ≠ []
      · rw [if_pos h3]
        exact told_answer B b vn vw va s what w hk ho h3.1 h3.2.1 h3.2.2
      · rw [if_neg h3]
        exact told_none B b vn vw va s what w hk ho h1 h2 h3
theorem Ok.told {s : KS} (h : s.Ok) (what : Int) : (s.told what).1.Ok := by
  unfold KS.told
  split
  · rename_i h1
    exact Ok.ask (Ok.entered h h1.2) _ rfl (by show s.asked.length ≤ 1; rw [h.trying (by omega)]; simp)
  · split
    · exact Ok.fail h
    · split
      · rename_i h3
        have ht : s.asked.tail.length ≤ 17 := by have := h.asked; rw [List.length_tail]; omega
        have hw : (s.answered (what - 2).toNat).wants.length = s.wants.length := by unfold KS.answered; dsimp only; split <;> simp
        exact { h with
          names := by rw [hw]; exact h.names
          asked := ht
          places := fun x hx => h.places x (List.mem_of_mem_tail hx)
          wants := fun x hx => by
            unfold KS.answered at hx
            dsimp only at hx
            split at hx
            · exact h.wants x hx
            · rcases List.mem_or_eq_of_mem_set hx with h4 | h4
              · exact h.wants x h4
              · omega
          trying := fun e => absurd h3.2.1 e }
      · exact h

theorem strInfo : (Try.prog.info? 9).map (fun i => (i.zero, i.size, i.bytes)) = some (some (.string ⟨#[]⟩), 1, 16) := by kernel_rfl
set_option maxHeartbeats 1000000 in
/-- slices.Clone of a slice of strings -/
theorem clone_ok (names : List ByteArray) (v : Value) (w : World) (hs : Sg w 1 v names.length (svals names)) (hl : names.length ≤ 1000) :
    Calls Try.prog 21 #[v] w fun e w' => ∃ v', e = .returned v' ∧ Sg w' 1 v' names.length (svals names) ∧ (∀ g, vblk v' = some g → w.heap.size ≤ g) ∧ Below w.heap.size w w' := by
  obtain ⟨i0, hi, hz0, hz1, hz2⟩ := info_parts strInfo
  have I := Lib.hid hi
  have I0 := Lib.hid hz0
  have I1 := Lib.hid hz1
  have I2 := Lib.hid hz2
  clear hi hz0 hz1 hz2
  have HS := Lib.hid hs
  obtain ⟨hlen, ao, cap, rfl, hnc, hcm, _⟩ := hs
  rcases Nat.eq_zero_or_pos names.length with h0 | hpos
  · have hn0 : names = [] := List.eq_nil_of_length_eq_zero h0
    subst hn0
    have AL := Lib.hid ((Below.refl _ w).alloc (Nat.le_refl _) (.cells #[] 9))
    have HQ : ∀ (w : World) (a : Option Addr) (n c : Nat), (binOp .eql 22 (.slice a n c) (.slice none 0 0)).run Try.prog w = .ok (.bool a.isNone) w := fun w a n c => Lib.run_eql_slice_nil w 22 9 a n c 0 0 Try.underlying22
    cases ao with
    | none =>
      go_enter Try.func21, Try.ntmps21
      go_wp2_with fail
      go_ret
      exact ⟨_, rfl, Sg.nil _ _, fun g h => by simp [vblk] at h, Below.refl _ _⟩
    | some a =>
      go_enter Try.func21, Try.ntmps21
      go_wp2_with fail
      go_ret
      exact ⟨_, rfl, ⟨by simp [svals], _, 0, rfl, Nat.le_refl _, Nat.zero_le _, .inl rfl⟩, fun g h => by simp [vblk] at h, AL.out⟩
  · obtain ⟨g, off, cap', hv, _, _, _, hglt, hcell, _⟩ := HS.out.open hpos
    simp only [Value.slice.injEq, true_and] at hv
    obtain ⟨rfl, rfl⟩ := hv
    have HQ : ∀ (w : World) (a : Option Addr) (n c : Nat), (binOp .eql 22 (.slice a n c) (.slice none 0 0)).run Try.prog w = .ok (.bool a.isNone) w := fun w a n c => Lib.run_eql_slice_nil w 22 9 a n c 0 0 Try.underlying22
    have AL := Lib.hid ((Below.refl _ w).alloc (Nat.le_refl _) (.cells #[] 9))
    have SB : Hid (Sg (w.alloc (.cells #[] 9)) 1 (.slice (some ⟨w.heap.size, 0, none⟩) 0 0) 0 []) := ⟨by simp, _, 0, rfl, Nat.le_refl _, Nat.zero_le _, .inl rfl⟩
    have HC := Lib.hid hcell
    clear hcell
    go_enter Try.func21, Try.ntmps21
    go_wp2_with (at_builtin; refine wpList_append_sg _ rfl (.tmp 5) (.tmp 6) 22 rfl 9 i0 (.string ⟨#[]⟩) 1 16 Try.underlying22 I.out I0.out I1.out I2.out rfl (by decide) _ 0 [] rfl SB.out ⟨g, off, none⟩ names.length cap (svals names) rfl (by simp [svals]) ?c1 ?c2 hpos ?b1 ?b2 ?grow)
    case c1 =>
      intro j u hj
      have hlj := (List.getElem?_eq_some_iff.1 hj).1
      have hlj' : j < names.length := by simpa [svals] using hlj
      rw [Addr.add_lit, AL.out.cell (p := ⟨g, off + j, none⟩) hglt, (HC.out j (by omega)).1]; exact hj
    case c2 =>
      intro u hu
      obtain ⟨x, _, rfl⟩ := List.mem_map.1 hu
      rfl
    case b1 => unfold maxLen; omega
    case b2 => omega
    case grow =>
      intro g' off2 cap2 w2 hs2 hv2 hg2 hk2
      have hb2 : Below w.heap.size w w2 := AL.out.trans (hk2.below (by simp) (fun k hk e => by simp [vblk] at e))
      have HB2 := Lib.hid hb2
      have S2 := Lib.hid hs2
      have V2 : Hid (∀ g, vblk (.slice (some ⟨g', off2, none⟩) names.length cap2) = some g → w.heap.size ≤ g) := fun g hg => by
        rw [hv2] at hg
        obtain rfl := Option.some.inj hg
        rcases hg2 with h | h
        · simp [vblk] at h
        · omega
      clear hs2 hv2 hg2 hk2 hb2
      go_wp2_with fail
      go_ret
      exact ⟨_, rfl, S2.out, V2.out, HB2.out⟩

def clampN (x : Int) : Nat := (max 1 (min x 1048576)).toNat
def newS (names : List ByteArray) (f m bt : Int) : KS :=
  { names := names.take 16, first := clampN f, most := (max (clampN f : Int) (min m 1048576)).toNat, beat := clampN bt, state := 0, clock := 0, since := 0, due := 1, fails := 0, wants := List.replicate (names.take 16).length 0, asked := [] }
theorem Ok.new (names : List ByteArray) (f m bt : Int) : (newS names f m bt).Ok := {
  first1 := by show 1 ≤ clampN f; unfold clampN; omega
  most1 := by show clampN f ≤ (max (clampN f : Int) (min m 1048576)).toNat; omega
  most2 := by show (max (clampN f : Int) (min m 1048576)).toNat ≤ _; unfold clampN; omega
  beat1 := by show 1 ≤ clampN bt; unfold clampN; omega
  beat2 := by show clampN bt ≤ _; unfold clampN; omega
  state := Nat.zero_le _
  clock := Nat.zero_le _
  since := Nat.le_refl _
  due := by show 1 ≤ 1000001048577; omega
  fails := Nat.zero_le _
  names := by show (names.take 16).length = (List.replicate (names.take 16).length 0).length; simp
  few := by show (names.take 16).length ≤ 16; rw [List.length_take]; omega
  asked := Nat.zero_le _
  places := fun x hx => by cases hx
  wants := fun x hx => by rw [(List.mem_replicate.1 hx).2]; omega
  trying := fun _ => rfl }

theorem wantInfo : (Try.prog.info? 58).map (fun i => (i.zero, i.size, i.bytes)) = some (some (.int .i64 0), 1, 8) := by kernel_rfl
theorem Sg.fresh {w : World} {h n : Nat} {t : TypeId} {xs : List Value} (hb : Blk w h t xs) (hl : xs.length = n) (hm : n ≤ maxLen) : Sg w 1 (.slice (some ⟨h, 0, none⟩) n n) n xs := by
  refine ⟨by omega, _, n, rfl, Nat.le_refl _, hm, ?_⟩
  rcases Nat.eq_zero_or_pos n with h0 | h0
  · exact .inl h0
  · refine .inr ⟨h, 0, rfl, hb.lt, fun j hj => ?_, fun j hj => ?_⟩
    · rw [Nat.zero_add]
      have hj' : j < xs.length := by omega
      exact ⟨by rw [hb.cell j _ (List.getElem?_eq_getElem hj')]; rfl, hb.free j⟩
    · rw [Nat.zero_add]
      have hj' : j < xs.length := by omega
      rw [hb.cell j _ (List.getElem?_eq_getElem hj'), List.getElem?_eq_getElem hj']
theorem new_fin {w w1 wc : World} {vm : Value} {nms : List ByteArray} {F M bq : Nat} {s : KS} (hB1 : Below w.heap.size w w1) (h0 : w.heap.size < w1.heap.size) (sn : Sg w1 1 vm nms.length (svals nms)) (nv : ∀ g, vblk vm = some g → w.heap.size + 1 ≤ g)
    (kk : Keeps (fun k => k = w.heap.size) w1 wc) (hs : s = { names := nms, first := F, most := M, beat := bq, state := 0, clock := 0, since := 0, due := 1, fails := 0, wants := List.replicate nms.length 0, asked := [] }) (hl : nms.length ≤ 16) :
    Kp (((wc.alloc (.cells (madeCells #[.int .i64 0] nms.length) 58)).alloc (.cells #[vm, .int .i64 F, .int .i64 M, .int .i64 bq, .int .i64 0, .int .i64 0, .int .i64 0, .int .i64 1, .int .i64 0, .slice (some ⟨wc.heap.size, 0, none⟩) nms.length nms.length, .slice none 0 0] 55)).drew) w.heap.size (wc.heap.size + 1) vm (.slice (some ⟨wc.heap.size, 0, none⟩) nms.length nms.length) (.slice none 0 0) s ∧
      Below w.heap.size w (((wc.alloc (.cells (madeCells #[.int .i64 0] nms.length) 58)).alloc (.cells #[vm, .int .i64 F, .int .i64 M, .int .i64 bq, .int .i64 0, .int .i64 0, .int .i64 0, .int .i64 1, .int .i64 0, .slice (some ⟨wc.heap.size, 0, none⟩) nms.length nms.length, .slice none 0 0] 55)).drew) ∧ ∀ g, vblk vm = some g → w.heap.size ≤ g := by
  rw [← and_assoc]
  refine ⟨?_, fun g hg => by have := nv g hg; omega⟩
  have z := kk.size
  obtain ⟨wa, hwa⟩ : ∃ wa, wa = wc.alloc (.cells (madeCells #[.int .i64 0] nms.length) 58) := ⟨_, rfl⟩
  have hza : wa.heap.size = wc.heap.size + 1 := by rw [hwa]; simp
  have b1 : Below wc.heap.size wc wa := by rw [hwa]; exact (Below.refl _ _).alloc (Nat.le_refl _) _
  have hbw : Blk wa wc.heap.size 58 (List.replicate nms.length (.int .i64 0)) := by
    rw [hwa, ← made_one (.int .i64 0) nms.length]
    simpa using Blk.new wc 58 (madeCells #[.int .i64 0] nms.length).toList
  rw [← hwa]
  obtain ⟨wb, hwb⟩ : ∃ wb, wb = wa.alloc (.cells #[vm, .int .i64 F, .int .i64 M, .int .i64 bq, .int .i64 0, .int .i64 0, .int .i64 0, .int .i64 1, .int .i64 0, .slice (some ⟨wc.heap.size, 0, none⟩) nms.length nms.length, .slice none 0 0] 55) := ⟨_, rfl⟩
  have b2 : Below wa.heap.size wa wb := by rw [hwb]; exact (Below.refl _ _).alloc (Nat.le_refl _) _
  have hbk : Blk wb wa.heap.size 55 [vm, .int .i64 F, .int .i64 M, .int .i64 bq, .int .i64 0, .int .i64 0, .int .i64 0, .int .i64 1, .int .i64 0, .slice (some ⟨wc.heap.size, 0, none⟩) nms.length nms.length, .slice none 0 0] := by rw [hwb]; exact Blk.new wa _ _
  rw [← hwb]
  have sc := sn.keeps kk (fun g hg e => by have := nv g hg; omega)
  have sb := (sc.below b1).below b2
  rw [hza] at hbk
  subst hs
  refine ⟨{ blk := hbk.drew 1, names := sb.drewN 1, wants := ?_, asked := Sg.nil _ _, nb := (fun e => by have := sc.lt e; omega), wb := ?_, ab := (fun h => by simp [vblk] at h), nw := ?_, na := apt_nil _, wa := apt_nil _, base := by omega, basew := ?_, basea := (fun g h => by simp [vblk] at h) }, ?_⟩
  · have h1 := (Sg.fresh (n := nms.length) (hbw.below b2 hbw.lt) (by simp) (by unfold maxLen; omega)).drewN 1
    show Sg _ 1 _ (List.replicate nms.length 0).length (nvals (List.replicate nms.length 0))
    rw [List.length_replicate, show nvals (List.replicate nms.length 0) = List.replicate nms.length (.int .i64 0) by simp [nvals]]
    exact h1
  · simp only [vblk]
    split <;> simp
  · intro g hg e
    have := sc.lt hg
    simp only [vblk] at e
    split at e
    · cases e
    · simp at e; omega
  · intro g e
    simp only [vblk] at e
    split at e
    · cases e
    · simp at e; omega
  · exact below_drewN (((hB1.trans (kk.below (Nat.le_of_lt h0) (fun k hk e => by omega))).trans (b1.mono (by omega))).trans (b2.mono (by omega))) 1
theorem Sg.front {w : World} {ao : Option Addr} {n cap : Nat} {xs : List Value} (h : Sg w 1 (.slice ao n cap) n xs) (k : Nat) (hk : k ≤ n) : Sg w 1 (.slice ao k cap) k (xs.take k) := by
  obtain ⟨hl, ao', cap', hv, h1, h2, h3⟩ := h
  simp only [Value.slice.injEq, true_and] at hv
  obtain ⟨rfl, rfl⟩ := hv
  refine ⟨by rw [List.length_take]; omega, ao, cap, rfl, by omega, h2, h3.imp id ?_⟩
  rintro ⟨g, off, rfl, hg, hc, hx⟩
  exact ⟨g, off, rfl, hg, hc, fun j hj => by rw [hx j (by omega), List.getElem?_take_of_lt (by omega)]⟩

set_option maxHeartbeats 4000000 in
set_option maxRecDepth 100000 in
theorem new_ok (names : List ByteArray) (v0 : Value) (f m bt : Int) (w : World) (hs : Sg w 1 v0 names.length (svals names)) (hl : names.length ≤ 1000) :
    Calls Try.prog 10 #[.agg #[v0, .int .i64 f, .int .i64 m, .int .i64 bt]] w fun e w' => ∃ b vn vw, e = .returned (.pointer (some ⟨b, 0, none⟩)) ∧ Kp w' w.heap.size b vn vw (.slice none 0 0) (newS names f m bt) ∧ Below w.heap.size w w' ∧ ∀ g, vblk vn = some g → w.heap.size ≤ g := by
  obtain ⟨ao, cap, rfl⟩ : ∃ ao cap, v0 = .slice ao names.length cap := by
    obtain ⟨_, ao, cap, hv, _⟩ := hs
    exact ⟨ao, cap, hv⟩
  have HB0 := Lib.hid ((Below.refl _ w).alloc (Nat.le_refl _) (.cells #[.slice ao names.length cap, .int .i64 f, .int .i64 m, .int .i64 bt] 24))
  have BL0 : Hid (Blk (w.alloc (.cells #[.slice ao names.length cap, .int .i64 f, .int .i64 m, .int .i64 bt] 24)) w.heap.size 24 [.slice ao names.length cap, .int .i64 f, .int .i64 m, .int .i64 bt]) := Blk.new w _ _
  obtain ⟨k, hk⟩ : ∃ k, k = (names.take 16).length := ⟨_, rfl⟩
  have hkn : k = min 16 names.length := by rw [hk, List.length_take]
  have hks : (names.length ≤ 16 ∧ k = names.length) ∨ (16 < names.length ∧ k = 16) := by clear hs; omega
  have FR := Lib.hid (show Sg (w.alloc (.cells #[.slice ao names.length cap, .int .i64 f, .int .i64 m, .int .i64 bt] 24)) 1 (.slice ao k cap) (names.take 16).length (svals (names.take 16)) from by
    have h1 := (hs.below HB0.out).front k (by rw [hkn]; exact Nat.min_le_right _ _)
    have e : (svals names).take k = svals (names.take 16) := by
      rw [svals, svals, ← List.map_take]
      congr 1
      rcases Nat.le_total names.length 16 with h | h
      · rw [List.take_of_length_le (by rw [hkn, Nat.min_eq_right h]; exact Nat.le_refl _), List.take_of_length_le h]
      · rw [show k = 16 by rw [hkn, Nat.min_eq_left h]]
    rw [e] at h1
    rw [← hk]; exact h1)
  obtain ⟨_, ao', cap', hv, hnc, hcm, hc0⟩ := hs
  simp only [Value.slice.injEq, true_and] at hv
  obtain ⟨rfl, rfl⟩ := hv
  unfold maxLen at hcm
  have hnil : ao = none → cap = 0 := fun e => by
    rcases hc0 with h | ⟨g, off, h, _⟩
    · exact h
    · rw [e] at h; cases h
  have HK := Lib.hid hk
  clear hc0 hk hkn
  obtain ⟨j0, hj, hy0, hy1, hy2⟩ := info_parts wantInfo
  have hmk : ∀ W : World, (Instr.makeSlice 53 (.int .i64 ((names.take 16).length : Nat)) (.int .i64 ((names.take 16).length : Nat))).run Try.prog W = .ok (.slice (some ⟨W.heap.size, 0, none⟩) (names.take 16).length (names.take 16).length) (W.alloc (.cells (madeCells #[.int .i64 0] (names.take 16).length) 58)) := fun W => by
    have hle : (names.take 16).length ≤ 16 := by rw [List.length_take]; exact Nat.min_le_left _ _
    have h := run_make (P := Try.prog) W 53 58 j0 (.int .i64 0) Try.underlying53 hj hy0 .i64 .i64 ((names.take 16).length : Nat) ((names.take 16).length : Nat) (by omega) (Int.le_refl _) (by rw [hy2]; omega) (by omega)
    rw [hy1, Nat.mul_one] at h
    simpa [Value.cells] using h
  have HMK := Lib.hid hmk
  clear hmk hj hy0 hy1 hy2
  rcases hks with ⟨q1, q2⟩ | ⟨q1, q2⟩
  all_goals
    have FR2 := FR.out
    rw [q2] at FR2
    clear q2
    go_enter Try.func10, Try.ntmps10
    go_wp2_with fail
    refine (clone_ok (names.take 16) _ _ FR2 (by rw [List.length_take]; exact Nat.le_trans (Nat.min_le_left _ _) (by omega))).mono ?_
    rintro e w1 ⟨vn, rfl, hsn, hnv, hb1⟩
    obtain ⟨an, cn, hvn⟩ : ∃ an cn, vn = .slice an (names.take 16).length cn := by
      obtain ⟨_, an, cn, hv, _⟩ := hsn
      exact ⟨an, cn, hv⟩
    subst hvn
    have hln : (names.take 16).length ≤ 16 := by rw [List.length_take]; exact Nat.min_le_left _ _
    generalize hnms : names.take 16 = nms at *
    have HNMS := Lib.hid hnms
    clear hnms
    generalize hnl : nms.length = nl at *
    have HNL := Lib.hid hnl
    clear hnl
    have hbl1 := BL0.out.below hb1 BL0.out.lt
    have hB1 := Lib.hid (HB0.out.trans (hb1.mono HB0.out.size))
    have NV := Lib.hid hnv
    have SN := Lib.hid hsn
    have hsz0 : w.heap.size < w1.heap.size := hbl1.lt
    have c0 := hbl1.cell 0 _ rfl
    have f0 := hbl1.free 0
    have BL1 := Lib.hid hbl1
    clear hsn hnv hb1 FR2 hbl1
    go_upto_region 2 with fail
    obtain ⟨vm, hvm⟩ : ∃ x, x = Value.slice an nl cn := ⟨_, rfl⟩
    rw [← hvm] at SN NV
    have HVM := Lib.hid hvm
    clear hvm
    refine wp_gen (fun wx => Blk wx w.heap.size 24 [vm, .int .i64 f, .int .i64 m, .int .i64 bt] ∧ Keeps (fun k => k = w.heap.size) w1 wx) ⟨by rw [HVM.out]; exact BL1.out.set 0 _, (Keeps.refl (fun k => k = w.heap.size) w1).set w.heap.size 0 _ (fun _ => rfl)⟩ ?_
    rintro w2 ⟨bl2, kk2⟩
    have BL2 := Lib.hid bl2
    have KK2 := Lib.hid kk2
    clear bl2 kk2 c0 f0
    go_cut [] (fun wx => Blk wx w.heap.size 24 [vm, .int .i64 (clampN f : Nat), .int .i64 m, .int .i64 bt] ∧ Keeps (fun k => k = w.heap.size) w1 wx)
    case first =>
      have c1 := BL2.out.cell 1 _ rfl
      have f1 := BL2.out.free 1
      have hc : (1048576 < f ∧ (clampN f : Int) = 1048576) ∨ (f ≤ 1048576 ∧ 1 < f ∧ (clampN f : Int) = f) ∨ (f ≤ 1048576 ∧ f ≤ 1 ∧ (clampN f : Int) = 1) := by unfold clampN; omega
      rcases hc with ⟨z1, z2⟩ | ⟨z1, z2, z3⟩ | ⟨z1, z2, z3⟩
      · have Z := Lib.hid z2
        clear z2
        go_wp2_with fail
        go_meet
        rw [Z.out]
        exact ⟨BL2.out.set 1 _, KK2.out.set _ 1 _ (fun _ => rfl)⟩
      · have Z := Lib.hid z3
        clear z3
        go_wp2_with fail
        go_meet
        rw [Z.out]
        exact ⟨BL2.out.set 1 _, KK2.out.set _ 1 _ (fun _ => rfl)⟩
      · have Z := Lib.hid z3
        clear z3
        go_wp2_with fail
        go_meet
        rw [Z.out]
        exact ⟨BL2.out.set 1 _, KK2.out.set _ 1 _ (fun _ => rfl)⟩
    case rest =>
    obtain ⟨bl3, kk3⟩ := hcut
    have BL3 := Lib.hid bl3
    have KK3 := Lib.hid kk3
    clear bl3 kk3 BL2 KK2
    have F1 : 1 ≤ clampN f := by unfold clampN; omega
    have F2 : clampN f ≤ 1048576 := by unfold clampN; omega
    obtain ⟨F, hF⟩ : ∃ F, F = clampN f := ⟨_, rfl⟩
    rw [← hF] at BL3 F1 F2
    have HFF := Lib.hid hF
    clear hF
    go_upto_region 3 with fail
    go_cut [] (fun wx => Blk wx w.heap.size 24 [vm, .int .i64 (F : Nat), .int .i64 ((max (F : Int) (min m 1048576)).toNat : Nat), .int .i64 bt] ∧ Keeps (fun k => k = w.heap.size) w1 wx)
    case first =>
      have c1 := BL3.out.cell 1 _ rfl
      have c2 := BL3.out.cell 2 _ rfl
      have f2 := BL3.out.free 2
      have hc : (1048576 < m ∧ (F : Int) < 1048576 ∧ (((max (F : Int) (min m 1048576)).toNat : Nat) : Int) = 1048576) ∨ (1048576 < m ∧ 1048576 ≤ (F : Int) ∧ (((max (F : Int) (min m 1048576)).toNat : Nat) : Int) = F) ∨ (m ≤ 1048576 ∧ (F : Int) < m ∧ (((max (F : Int) (min m 1048576)).toNat : Nat) : Int) = m) ∨ (m ≤ 1048576 ∧ m ≤ (F : Int) ∧ (((max (F : Int) (min m 1048576)).toNat : Nat) : Int) = F) := by omega
      rcases hc with ⟨z1, z2, z3⟩ | ⟨z1, z2, z3⟩ | ⟨z1, z2, z3⟩ | ⟨z1, z2, z3⟩
      all_goals
        have Z := Lib.hid z3
        clear z3
        go_wp2_with fail
        go_meet
        rw [Z.out]
        exact ⟨BL3.out.set 2 _, KK3.out.set _ 2 _ (fun _ => rfl)⟩
    case rest =>
    obtain ⟨bl4, kk4⟩ := hcut
    have BL4 := Lib.hid bl4
    have KK4 := Lib.hid kk4
    clear bl4 kk4 BL3 KK3
    obtain ⟨M, hM⟩ : ∃ M, M = (max (F : Int) (min m 1048576)).toNat := ⟨_, rfl⟩
    rw [← hM] at BL4
    have HMM := Lib.hid hM
    clear hM
    go_upto_region 4 with fail
    go_cut [] (fun wx => Blk wx w.heap.size 24 [vm, .int .i64 (F : Nat), .int .i64 (M : Nat), .int .i64 (clampN bt : Nat)] ∧ Keeps (fun k => k = w.heap.size) w1 wx)
    case first =>
      have c3 := BL4.out.cell 3 _ rfl
      have f3 := BL4.out.free 3
      have hc : (1048576 < bt ∧ (clampN bt : Int) = 1048576) ∨ (bt ≤ 1048576 ∧ 1 < bt ∧ (clampN bt : Int) = bt) ∨ (bt ≤ 1048576 ∧ bt ≤ 1 ∧ (clampN bt : Int) = 1) := by unfold clampN; omega
      rcases hc with ⟨z1, z2⟩ | ⟨z1, z0, z2⟩ | ⟨z1, z0, z2⟩
      all_goals
        have Z := Lib.hid z2
        clear z2
        go_wp2_with fail
        go_meet
        rw [Z.out]
        exact ⟨BL4.out.set 3 _, KK4.out.set _ 3 _ (fun _ => rfl)⟩
    case rest =>
    obtain ⟨bl5, kk5⟩ := hcut
    have BL5 := Lib.hid bl5
    have KK5 := Lib.hid kk5
    clear bl5 kk5 BL4 KK4
    obtain ⟨bq, hbq⟩ : ∃ bq, bq = clampN bt := ⟨_, rfl⟩
    rw [← hbq] at BL5
    have HBQ := Lib.hid hbq
    clear hbq
    rw [HVM.out] at BL5
    have c0 := BL5.out.cell 0 _ rfl
    have c1 := BL5.out.cell 1 _ rfl
    have c2 := BL5.out.cell 2 _ rfl
    have c3 := BL5.out.cell 3 _ rfl
    have hmk := HMK.out
    have hlt5 := BL5.out.lt
    go_wp2_with fail
    go_region
    go_wp2_with fail
    have NF := new_fin (vm := vm) (nms := nms) (F := F) (M := M) (bq := bq) (s := newS names f m bt) hB1.out hsz0 (by rw [HNL.out]; exact SN.out) (fun g hg => by have := NV.out g hg; simpa using this) KK5.out (by unfold newS; rw [HNMS.out, ← HFF.out, ← HMM.out, ← HBQ.out]) (by rw [HNL.out]; exact hln)
    rw [HNL.out, HVM.out] at NF
    have NFH := Lib.hid NF
    clear NF c0 c1 c2 c3 hmk
    go_ret
    exact ⟨_, _, _, rfl, NFH.out⟩
end Go.Proofs.Ytaenfkekdhnakaa
