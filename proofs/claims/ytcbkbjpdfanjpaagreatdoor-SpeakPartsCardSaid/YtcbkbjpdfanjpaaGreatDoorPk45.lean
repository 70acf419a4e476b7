/-
SpeakParts, walked.
-/
import Derived.Test.YtcbkbjpdfanjpaaGreatDoorPk43
import Derived.Test.YtcbkbjpdfanjpaaGreatDoorPk34
import Derived.Test.YtcbkbjpdfanjpaaGreatDoorPk44
namespace Go.Proofs.YtcbkbjpdfanjpaaGreatDoor
open Go.RowKit HelP
set_option maxRecDepth 100000
namespace Sp
open Pt
open Mg (FV NN uv bv tR tM zM)
theorem wr0 (w : World) : Blk (w.alloc (Obj.cells (lnC 0 false kz []).toArray tWr)) w.heap.size tWr (lnC 0 false kz []) := Blk.new _ _ _
theorem sg_one5 {w : World} {b : Nat} {t : TypeId} {cs : List Value} (h : Blk w b t cs) (hl : cs.length = 5) : Sg w 5 (.slice (some ⟨b, 0, none⟩) 1 1) 1 cs := by
  refine ⟨by rw [hl], some ⟨b, 0, none⟩, 1, rfl, Nat.le_refl _, by decide, .inr ⟨b, 0, rfl, h.lt, fun j hj => ?_, fun j hj => ?_⟩⟩
  · have hj' : j < cs.length := by omega
    have hc := h.cell (0 + j) (cs[j]'hj') (by rw [Nat.zero_add]; exact List.getElem?_eq_getElem hj')
    exact ⟨by rw [hc]; rfl, h.free _⟩
  · have hj' : j < cs.length := by omega
    have hc := h.cell (0 + j) (cs[j]'hj') (by rw [Nat.zero_add]; exact List.getElem?_eq_getElem hj')
    rw [hc, List.getElem?_eq_getElem hj']
theorem iparts5 {t : TypeId} {z : Value} {n k : Nat} (h : (Tryz.prog.info? t).map (fun i => (i.zero, i.size, i.bytes)) = some (some z, n, k)) : ∃ i, Tryz.prog.info? t = some i ∧ i.zero = some z ∧ i.size = n ∧ i.bytes = k := by
  cases hi : Tryz.prog.info? t with
  | none => rw [hi] at h; cases h
  | some i =>
    rw [hi] at h
    have e : (i.zero, i.size, i.bytes) = (some z, n, k) := Option.some.inj h
    exact ⟨i, rfl, (Prod.mk.inj e).1, (Prod.mk.inj (Prod.mk.inj e).2).1, (Prod.mk.inj (Prod.mk.inj e).2).2⟩
theorem infR : (Tryz.prog.info? tR).map (fun i => (i.zero, i.size, i.bytes)) = some (some (.agg zM.toArray), 5, 104) := by kernel_rfl
set_option maxHeartbeats 32000000 in
theorem parts_ok (ad : Nat → Addr) (Bg : List Int) (Or : List Nat) (key : S) (K : Int) (al : Option Addr) (nl cl : Nat) (ac : Option Addr) (nc cc : Nat) (w : World) (hP : P0 w ad Bg Or key al nl ac nc) :
    Calls Tryz.prog 3 #[.agg (tlk al nl cl key K ac nc cc).toArray] w fun e w' => e = .returned (.bool true) ∧ Below w.heap.size w w' := by
  have HP := Lib.hid hP
  have LK := Lib.hid hP.key
  clear hP
  go_enter Tryz.func3, Tryz.ntmps3
  go_upto_region 1 with fail
  refine wp_gen (fun wx => Blk wx w.heap.size tK (tlk al nl cl key K ac nc cc) ∧ Below w.heap.size w wx) ⟨Blk.new _ _ _, below1 _ _⟩ ?_
  rintro w1 ⟨T1, B1⟩
  have N1 := Lib.hid (hnew_ok false w1)
  have HT1 := Lib.hid (And.intro T1 B1)
  have hs1 : w.heap.size < w1.heap.size := T1.lt
  clear T1 B1
  go_upto_region 2 with (go_at_call 4; refine N1.out.mono ?_; rintro e w2 ⟨rfl, hb2, hbl2⟩)
  have HS2 := Lib.hid (HP.out.es.same (HT1.out.2.trans (Below.mono hbl2 HT1.out.2.size)))
  have HL : Hid (Calls Tryz.prog 5 #[.string { data := #[120] }] w2 fun e w' => e = .returned (.tuple #[.string { data := #[83, 83, 72, 45, 50, 46, 48, 45, 120, 13, 10] }, .nilIface]) ∧ Below w2.heap.size w2 w') := Lib.hid (hline_ok ad { data := #[120] } (by decide) w2 HS2.out)
  have HH2 := Lib.hid (And.intro hb2 hbl2)
  have hs2 : w1.heap.size < w2.heap.size := hb2.lt
  clear hb2 hbl2 N1
  go_upto_region 3 with (go_at_call 5; refine HL.out.mono ?_; rintro e w3 ⟨rfl, hbl3⟩)
  have HH3 := Lib.hid hbl3
  have hs3 : w2.heap.size ≤ w3.heap.size := hbl3.size
  clear hbl3 HL HS2
  go_upto_region 7 with fail
  refine wp_gen (fun wx => Blk wx w3.heap.size tWr (lnC 0 false kz []) ∧ Blk wx (w3.heap.size + 1) tRd (rdC 0 false kz []) ∧ Below w3.heap.size w3 wx) ⟨(Blk.new w3 tWr (lnC 0 false kz [])).alloc _, Blk.new2 w3 _ tRd (rdC 0 false kz []), below2 _ _ _⟩ ?_
  rintro w4 ⟨X1, X2, X3⟩
  have HB0 : Hid (LB w ad w.heap.size w1.heap.size w3.heap.size (w3.heap.size + 1) (tlk al nl cl key K ac nc cc) key 0 (slW K 0) (.slice none 0 0) [] [] w4) := Lib.hid (by
    have e : slW K 0 = false := by unfold slW; rw [decide_eq_false_iff_not]; omega
    rw [e]
    have B13 : Below w1.heap.size w1 w3 := HH2.out.2.trans (Below.mono HH3.out HH2.out.2.size)
    have B14 : Below w1.heap.size w1 w4 := B13.trans (Below.mono X3 B13.size)
    exact ⟨HT1.out.2.trans (Below.mono B14 HT1.out.2.size), HT1.out.1.below B14 HT1.out.1.lt, HSt.below (HSt.below (st := .wait [] 0) ⟨HH2.out.1, by omega, Nat.zero_le _⟩ HH3.out) X3, X1, X2, TD.nil _ _, (fun g hg => by cases hg), ⟨Nat.le_refl _, hs1, by omega, by omega⟩⟩)
  clear X1 X2 X3 HH2 HH3 HT1
  generalize w.heap.size = tb at *
  generalize w1.heap.size = hb at *
  generalize hrb : w3.heap.size + 1 = rb at *
  generalize w3.heap.size = wb at *
  have hWB : wb < rb := by omega
  clear hrb hs1 hs2 hs3
  go_upto_region 9 with fail
  go_loopw [4, 8, 9] (fun v4 v8 v9 wx => ∃ (qs : List Q) (V : Value) (xs : List Value), v4 = .string (by8 (L11 ++ strm Bg Or key K 0 (qs.map Q.p))) ∧ V = v8 ∧ v9 = .int .i64 (qs.length : Nat) ∧ qs.length ≤ 10 ∧ Hid (LB w ad tb hb wb rb (tlk al nl cl key K ac nc cc) key qs.length (slW K qs.length) V xs qs wx)) (fun _ _ v _ => 11 - (intOf v).toNat)
  case atStart => exact ⟨[], _, [], rfl, rfl, rfl, by decide, HB0⟩
  case round =>
    obtain ⟨qs, V, xs, rfl, rfl, rfl, hq10, HB⟩ := hrel
    clear HB0
    obtain ⟨c0, c33, c34, cK⟩ := tlk_cells HB.out.t LK.out
    go_upto_region 9 with fail
    go_cut [42] (fun v wx => v = .bool (decide (qs.length < nl ∧ qs.length < 10)) ∧ wr = wx)
    case first =>
      have e9 : ((qs.length : Int) < 10) = (qs.length < 10) := propext (by omega)
      rcases Nat.lt_or_ge qs.length nl with h | h
      · have en : ((qs.length : Int) < (nl : Int)) = True := eq_true (by omega)
        go_wp2_with fail
        go_meet
        refine ⟨congrArg Value.bool ?_, rfl⟩
        rw [Bool.eq_iff_iff]
        simp
        omega
      · have en : ((qs.length : Int) < (nl : Int)) = False := eq_false (by omega)
        go_wp2_with fail
        go_meet
        refine ⟨congrArg Value.bool ?_, rfl⟩
        rw [eq_comm, decide_eq_false_iff_not]
        omega
    case rest =>
    obtain ⟨rfl, rfl⟩ := hcut
    by_cases hgo : qs.length < nl ∧ qs.length < 10
    · rw [decide_eq_true hgo]
      obtain ⟨hgn, hg10⟩ := hgo
      go_upto_region 11 with fail
      go_upto_if 48 with fail
      clear c0
      go_cut [9] (fun v wx => v = .int .i64 (qs.length : Nat) ∧ Hid (LB w ad tb hb wb rb (tlk al nl cl key K ac nc cc) key qs.length (sl K qs.length) V xs qs wx))
      case first =>
        by_cases hK : (qs.length : Int) = K
        · have dK : ((qs.length : Int) == K) = true := by rw [beq_iff_eq]; exact hK
          have SL := Lib.hid (Pt.seal_ok wb qs.length tWr (slW K qs.length) (kAt key (slW K qs.length)) key [] _ HB.out.wr (kAt_len LK.out _) LK.out)
          have SO := Lib.hid (sl_on hK)
          have SZ : Hid ((byv key).length = 32) := Lib.hid (by rw [byv_len]; exact LK.out)
          clear hK
          go_upto_region 12 with fail
          go_wp2_with (first | refine load_range cK Tryz.underlying23 rfl arr32_size SZ.out rfl rfl rfl ?_ | (go_at_call 6; refine SL.out.mono ?_; rintro e w5 ⟨⟨u5, rfl⟩, hb5, hk5⟩; have HB5 := Lib.hid (HB.out.write (sw' := true) hb5 hk5); clear hb5 hk5))
          go_meet
          refine ⟨rfl, ?_⟩
          rw [SO.out]
          exact HB5
        · have dK : ((qs.length : Int) == K) = false := by rw [beq_eq_false_iff_ne]; exact hK
          have e := sl_off hK
          rw [e] at HB
          clear e hK
          go_wp2_with fail
          go_meet
          exact ⟨rfl, HB⟩
      case rest =>
      obtain ⟨rfl, HB⟩ := hcut
      obtain ⟨b, off, eal, k, u, s, ns, bs, au, aq, an, ab, nu, cu, nq, cq, nn, cn, nb, cb, hr, hv, hu⟩ := HB.out.msg HP.out.msgs qs.length hgn
      obtain ⟨c0, c33, c34, -⟩ := tlk_cells HB.out.t LK.out
      have r0 := hr _ (Below.refl _ _)
      rw [eal] at c0
      have HM := Lib.hid (And.intro eal hu)
      have FW := Lib.hid (Fe.few_ok _ k u s ns bs au aq an ab nu cu nq cq nn cn nb cb _ HB.out.fresh hv)
      clear hr hv hu eal
      go_upto_region 14 with (first | refine load_range r0 Tryz.underlying46 rfl Fe.tR_size rfl rfl rfl rfl ?_ | (go_at_call 7; refine FW.out.mono ?_; rintro e w6 ⟨⟨au', aq', an', ab', nu', cu', nq', cq', nn', cn', nb', cb', rfl, hv6⟩, hb6⟩) | refine store_blk (n := 5) ?sb Fe.tR_size rfl rfl ?so rfl rfl rfl rfl ?_)
      refine wp_gen (fun wx => Blk wx w6.heap.size tR [.int .i64 k, .slice au' nu' cu', .slice aq' nq' cq', .slice an' nn' cn', .slice ab' nb' cb'] ∧ FV (fun k => D3 hb wb rb k ∨ vblk V = some k) wx (u.take 9) (Fe.fS s) (Fe.fN ns) (bs.take 9) au' aq' an' ab' nu' cu' nq' cq' nn' cn' nb' cb' ∧ LB w ad tb hb wb rb (tlk al nl cl key K ac nc cc) key qs.length (sl K qs.length) V xs qs wx ∧ TD (fun g => D3 hb wb rb g ∨ g = w6.heap.size) wx V xs qs ∧ (rb < w6.heap.size ∧ ∀ g, vblk V = some g → g < w6.heap.size)) ⟨Blk.new w6 tR _, hv6.below (below1 _ _), (HB.out.below hb6).below (below1 _ _), ((HB.out.below hb6).td.mono (fun g hg e => e.elim id (fun e => by omega))).below (below1 _ _), ⟨(HB.out.below hb6).hlt.2.2, fun g hg => (HB.out.below hb6).td.sg.lt hg⟩⟩ ?_
      rintro w7 ⟨M7, V7, L7, T7, hrm⟩
      have H7 := Lib.hid (And.intro M7 (And.intro V7 (And.intro L7 (And.intro T7 hrm))))
      have hmb : w6.heap.size < w7.heap.size := M7.lt
      generalize w6.heap.size = mb at *
      have CK := Lib.hid (Rf.check_ok k _ _ _ _ _ _ _ _ _ _ _ _ _ _ _ _ w7 (Fe.few_short u s ns bs) (V7.mono (fun _ _ e => e.elim)))
      clear V7 L7 T7 hrm hv6 hb6 FW r0 c0 c33 c34 HB
      go_upto_if 60 with (first | refine load_blk M7 Tryz.underlying46 rfl Fe.tR_size rfl rfl rfl rfl ?_ | (go_at_call 8; refine CK.out.mono ?_; rintro e w8 ⟨⟨c, rfl, hc⟩, hb8⟩))
      have HC := Lib.hid hc
      have H8 := Lib.hid (And.intro (H7.out.1.below hb8 H7.out.1.lt) (And.intro (H7.out.2.1.below hb8) (And.intro (H7.out.2.2.1.below hb8) (And.intro (H7.out.2.2.2.1.below hb8) H7.out.2.2.2.2))))
      have hmb8 : mb < w8.heap.size := by have := hb8.size; omega
      have hrm8 : rb < mb := H7.out.2.2.2.2.1
      clear M7 CK hb8 hc H7 hmb
      go_cut [10] (fun v wx => v = .pointer (some ⟨mb, 0, none⟩) ∧ Hid (∃ (q : Q) (cs : List Value), Blk wx mb tR cs ∧ EV (fun k => D3 hb wb rb k ∨ vblk V = some k) wx q cs ∧ q.ok ∧ LB w ad tb hb wb rb (tlk al nl cl key K ac nc cc) key qs.length (sl K qs.length) V xs qs wx))
      case first =>
        by_cases h0 : c = 0
        · have dC : (c != 0) = false := by rw [h0]; rfl
          have HQ : Hid (∃ (q : Q) (cs : List Value), Blk w8 mb tR cs ∧ EV (fun k => D3 hb wb rb k ∨ vblk V = some k) w8 q cs ∧ q.ok ∧ LB w ad tb hb wb rb (tlk al nl cl key K ac nc cc) key qs.length (sl K qs.length) V xs qs w8) := Lib.hid (by
            obtain ⟨ls, hls, hf⟩ := HC.out h0
            obtain ⟨q, e1, e2, e3, e4, e5, e6⟩ := cut_ok' hls hf HM.out.2
            refine ⟨q, _, H8.out.1, ⟨au', aq', an', ab', nu', cu', nq', cq', nn', cn', nb', cb', by rw [e1], ?_⟩, e6, H8.out.2.2.1⟩
            rw [e2, e3, e4, e5]
            exact H8.out.2.1)
          clear h0 HC H8
          go_wp2_with fail
          go_meet
          exact ⟨rfl, HQ⟩
        · have dC : (c != 0) = true := by rw [bne_iff_ne]; exact h0
          have M8 : Blk (w8.alloc (Obj.cells #[.string { data := #[119, 114, 111, 110, 103] }] 9)) mb tR [.int .i64 k, .slice au' nu' cu', .slice aq' nq' cq', .slice an' nn' cn', .slice ab' nb' cb'] := H8.out.1.alloc _
          have ONE := Mg.sls_one 2 none (some ⟨w8.heap.size, 0, none⟩) none none 0 0 1 1 0 0 0 0
          clear h0 HC
          go_upto_region 15 with fail
          go_wp2_with (refine store_blk (n := 5) (cs := [.int .i64 2, .slice none 0 0, .slice (some ⟨w8.heap.size, 0, none⟩) 1 1, .slice none 0 0, .slice none 0 0]) M8 Fe.tR_size rfl rfl ONE rfl rfl rfl rfl ?_)
          go_meet
          refine ⟨rfl, Lib.hid ⟨wrong, _, M8.setRow _, ?_, wrong_ok, ?_⟩⟩
          · have hf := H8.out.2.2.1.fresh
            have hn := H8.out.2.2.1.fresh w8.heap.size (Nat.le_refl _)
            refine ⟨none, some ⟨w8.heap.size, 0, none⟩, none, none, 0, 0, 1, 1, 0, 0, 0, 0, rfl, ⟨Rs.nil _ _ _ _, ⟨rfl, Nat.le_refl _, .inr ⟨w8.heap.size, 0, rfl, by simp, hn, fun j x hj => ?_⟩⟩, ⟨[], Rs.nil _ _ _ _, rfl, fun i x l hx => (by cases hx)⟩, Rs.nil _ _ _ _⟩⟩
            have hs := (Keeps.refl (fun q => q = mb) (w8.alloc (Obj.cells #[.string { data := #[119, 114, 111, 110, 103] }] 9)))
            have hB := (Blk.new w8 9 [.string { data := #[119, 114, 111, 110, 103] }])
            have hB2 := (show Keeps (fun q => q = mb) _ _ from Mg.keeps_row (w8.alloc (Obj.cells #[.string { data := #[119, 114, 111, 110, 103] }] 9)) mb #[.int .i64 2, .slice none 0 0, .slice (some ⟨w8.heap.size, 0, none⟩) 1 1, .slice none 0 0, .slice none 0 0]).blk hB (by omega)
            exact hB2.cell (0 + j) x (by rw [Nat.zero_add]; exact hj)
          · have hL := H8.out.2.2.1.below (below1 w8 (Obj.cells #[.string { data := #[119, 114, 111, 110, 103] }] 9))
            have hT := H8.out.2.2.2.1.below (below1 w8 (Obj.cells #[.string { data := #[119, 114, 111, 110, 103] }] 9))
            exact hL.row hT (Mg.keeps_row _ mb _) H8.out.2.2.2.2.1 H8.out.2.2.2.2.2
      case rest =>
      obtain ⟨rfl, HQ⟩ := hcut
      obtain ⟨q, cs, M9, E9, ok9, L9⟩ := HQ.out
      clear HQ HC H8 hmb8
      have hm9 : mb < wc.heap.size := M9.lt
      obtain ⟨bu, bq, bn, bb, mu, du, mq, dq, mn, dn, mm, db, rfl, V9⟩ := E9
      have OKQ := Lib.hid ok9
      have BY := Lib.hid (Mg.bytes_ok q.kn q.ls q.u q.s q.n q.b bu bq bn bb mu du mq dq mn dn mm db wc (HP.out.rows.below L9.b) ok9.l ok9.f ok9.m.fw ok9.m.ub (V9.mono (fun _ _ e => e.elim)))
      have PKC : Hid (∀ wx, Below wc.heap.size wc wx → Calls Tryz.prog 9 #[.pointer (some ⟨wb, 0, none⟩), .string (by8 q.p)] wx fun e w' => e = .returned (.tuple #[.string (by8 (pk Bg Or key K qs.length q.p)), .nilIface]) ∧ Blk w' wb tWr (lnC (qs.length + 1) (sl K qs.length) (kAt key (sl K qs.length)) []) ∧ Keeps (fun z => z = wb) wx w') := Lib.hid fun wx hx => pack_ok Bg Or wb qs.length (sl K qs.length) (kAt key (sl K qs.length)) q.p wx (L9.wr.below hx L9.wr.lt) (kAt_len LK.out _) (HP.out.pc.below (L9.b.trans (hx.mono L9.b.size))) ok9.pl.2 ok9.pl.1 (by omega)
      have H9 := Lib.hid (And.intro M9 (And.intro V9 L9))
      clear V9 L9 ok9
      go_upto_region 17 with (first | refine load_blk M9 Tryz.underlying46 rfl Fe.tR_size rfl rfl rfl rfl ?_ | (go_at_call 10; refine BY.out.mono ?_; rintro e w10 ⟨rfl, hb10⟩) | (go_at_call 9; refine (PKC.out _ hb10).mono ?_; rintro e w11 ⟨rfl, hb11, hk11⟩))
      have H11 := Lib.hid (And.intro ((H9.out.1.below hb10 H9.out.1.lt)) (And.intro ((H9.out.2.1.below hb10).keeps hk11 (fun g _ e => .inl (.inr (.inl e)))) ((H9.out.2.2.below hb10).write hb11 hk11)))
      have HM11 := Lib.hid (hk11.blk H11.out.1 (by omega))
      have m11 := HM11.out
      have KK11 := Lib.hid (And.intro H11.out.2.1 H11.out.2.2)
      have z1 : (by8 (L11 ++ strm Bg Or key K 0 (qs.map Q.p))).size ≤ 70000 := by
        rw [by8_size, List.length_append]
        have h1 := strm_len (Bg := Bg) (Or := Or) (key := key) (K := K) (qs.map Q.p) 0 (fun p hp => by
          obtain ⟨z, hz, rfl⟩ := List.mem_map.1 hp
          exact (KK11.out.2.td.ok z hz).pl.1)
        rw [List.length_map] at h1
        have : L11.length = 11 := rfl
        omega
      have z2 : (by8 (pk Bg Or key K qs.length q.p)).size ≤ 7000 := by
        rw [by8_size]
        have h1 := (pk_len (Bg := Bg) (Or := Or) (key := key) (K := K) qs.length q.p).2
        have h2 := OKQ.out.pl.1
        omega
      have HAP : Hid (by8 (L11 ++ strm Bg Or key K 0 (qs.map Q.p)) ++ by8 (pk Bg Or key K qs.length q.p) = by8 (L11 ++ strm Bg Or key K 0 ((qs ++ [q]).map Q.p))) := Lib.hid (by
        rw [by8_app, List.map_append, List.map_singleton, strm_snoc, List.length_map, Nat.zero_add, List.append_assoc])
      clear hb10 hb11 hk11 M9 H9 H11 BY PKC
      obtain ⟨ir, jr1, jr2, jr3, jr4⟩ := iparts5 infR
      have JR := Lib.hid (And.intro jr1 (And.intro jr2 (And.intro jr3 jr4)))
      clear jr1 jr2 jr3 jr4
      have SG1 := Lib.hid (sg_one5 (Blk.new w11 46 [.int .i64 (q.kn : Nat), .slice bu mu du, .slice bq mq dq, .slice bn mn dn, .slice bb mm db]) rfl)
      have L12 := Lib.hid (KK11.out.2.below (below1 w11 (Obj.cells #[.int .i64 (q.kn : Nat), .slice bu mu du, .slice bq mq dq, .slice bn mn dn, .slice bb mm db] 46)))
      have SGV := Lib.hid L12.out.td.sg
      have q1 : qs.length + 1 ≤ maxLen := by unfold maxLen; omega
      have q2 : (qs.length + 1) * 104 ≤ 140737488355328 := by omega
      go_upto_region 20 with fail
      go_wp2_with (first | refine load_blk m11 Tryz.underlying46 rfl Fe.tR_size rfl rfl rfl rfl ?_ | (at_builtin; refine wpList_append_any _ rfl (.tmp 74) (.tmp 76) 22 rfl 46 ir (.agg zM.toArray) 5 104 Tryz.underlying22 JR.out.1 JR.out.2.1 JR.out.2.2.1 JR.out.2.2.2 rfl (by decide) V qs.length xs rfl SGV.out (.slice (some ⟨w11.heap.size, 0, none⟩) 1 1) 1 [.int .i64 (q.kn : Nat), .slice bu mu du, .slice bq mq dq, .slice bn mn dn, .slice bb mm db] rfl SG1.out (Mg.sls_one _ _ _ _ _ _ _ _ _ _ _ _ _) q1 q2 ?grow))
      case grow =>
        intro v' w12 hs12 hv12 hk12
        have e9 : sl K qs.length = slW K (qs ++ [q]).length := by rw [List.length_append]; exact (slW_next K qs.length).symm
        have HB2 : Hid (LB w ad tb hb wb rb (tlk al nl cl key K ac nc cc) key (qs ++ [q]).length (slW K (qs ++ [q]).length) v' (xs ++ [.int .i64 (q.kn : Nat), .slice bu mu du, .slice bq mq dq, .slice bn mn dn, .slice bb mm db]) (qs ++ [q]) w12) := Lib.hid (by
          rw [← e9, List.length_append]
          exact L12.out.tell OKQ.out ⟨bu, bq, bn, bb, mu, du, mq, dq, mn, dn, mm, db, rfl, KK11.out.1.below (below1 _ _)⟩ hs12 (by simpa using hv12) hk12)
        clear hs12 hv12 hk12 e9 SGV L12 SG1 JR KK11 HM11 OKQ
        go_wp2_with fail
        go_roundw
        case rel => exact ⟨qs ++ [q], v', _, by rw [HAP.out], rfl, by rw [List.length_append]; rfl, by rw [List.length_append]; show qs.length + 1 ≤ 10; omega, HB2⟩
        case measure => simp [intOf]; omega
    · rw [decide_eq_false hgo]
      clear hgo c0 c33 c34 cK
      go_upto_region 23 with fail
      have HL0 : Hid (HI (L11 ++ strm Bg Or key K 0 (qs.map Q.p)) (.wait [] 0) [] (rst Bg Or key K qs 0) ∧ short Bg Or key K qs 0 [] ∧ LH w ad tb hb wb rb (tlk al nl cl key K ac nc cc) key V xs qs 0 false (.wait [] 0) [] wr ∧ (((0 : Nat) : Int) = K ∨ false = sl K 0) ∧ (L11 ++ strm Bg Or key K 0 (qs.map Q.p)).length ≤ 70000) := Lib.hid (by
        refine ⟨HI.start _, fun q hq => ?_, HB.out.start, ?_, ?_⟩
        · have := (pk_len (Bg := Bg) (Or := Or) (key := key) (K := K) 0 q.p).1
          show 0 < _
          omega
        · by_cases hK : ((0 : Nat) : Int) = K
          · exact .inl hK
          · right
            rw [← sl_off hK]
            unfold slW
            rw [eq_comm, decide_eq_false_iff_not]
            omega
        · have h1 := strm_len (Bg := Bg) (Or := Or) (key := key) (K := K) (qs.map Q.p) 0 (fun p hp => by
            obtain ⟨z, hz, rfl⟩ := List.mem_map.1 hp
            exact (HB.out.td.ok z hz).pl.1)
          rw [List.length_map] at h1
          rw [List.length_append]
          have : L11.length = 11 := rfl
          omega)
      have VQ : Hid (∃ ao cap, V = .slice ao qs.length cap) := Lib.hid (let ⟨_, ao, cap, h, _⟩ := HB.out.td.sg; ⟨ao, cap, h⟩)
      clear HB
      obtain ⟨ao, cap, rfl⟩ := VQ.out
      clear VQ
      obtain ⟨rem0, hrem0⟩ : ∃ x, x = L11 ++ strm Bg Or key K 0 (qs.map Q.p) := ⟨_, rfl⟩
      rw [← hrem0] at HL0 ⊢
      clear hrem0
      go_loopw [4, 13, 14] (fun v4 v13 v14 wx => ∃ (rem : S) (st : St) (rs : S) (c k : Nat) (sr : Bool), v4 = .string (by8 rem) ∧ v13 = .int .i64 (c : Nat) ∧ v14 = .int .i64 (k : Nat) ∧ c ≤ qs.length ∧ k + rem.length ≤ 70000 ∧ rs.length + rem.length ≤ 70000 ∧ Hid (HI rem st rs (rst Bg Or key K qs c) ∧ short Bg Or key K qs c rs ∧ LH w ad tb hb wb rb (tlk al nl cl key K ac nc cc) key (.slice ao qs.length cap) xs qs c sr st rs wx ∧ ((c : Int) = K ∨ sr = sl K c))) (fun v _ _ _ => strLen v)
      case atStart =>
        obtain ⟨g1, g2, g3, g4, g5⟩ := HL0.out
        exact ⟨rem0, .wait [] 0, [], 0, 0, false, rfl, rfl, rfl, Nat.zero_le _, by omega, by simp; omega, Lib.hid ⟨g1, g2, g3, g4⟩⟩
      case round =>
      obtain ⟨rem, st, rs, c, k, sr, rfl, rfl, rfl, hcq, hkr, hrr, HX⟩ := hrel
      clear HL0
      rcases Nat.eq_zero_or_pos rem.length with h0 | h0
      · have he : (by8 rem).toList.isEmpty = true := by rw [by8_empty]; exact decide_eq_true h0
        obtain rfl := List.eq_nil_of_length_eq_zero h0
        obtain ⟨g1, g2, g3, g4⟩ := HX.out
        obtain ⟨rfl, hrs⟩ := g1.fin
        have hceq : c = qs.length := by
          rcases Nat.lt_or_ge c qs.length with h | h
          · obtain ⟨q, hq⟩ : ∃ q, qs[c]? = some q := ⟨_, List.getElem?_eq_getElem h⟩
            have h1 := g2 q hq
            rw [hrs, rst_next hq, List.length_append] at h1
            omega
          · omega
        subst hceq
        rw [rst_end (Nat.le_refl _)] at hrs
        subst hrs
        have HPN : Hid (Calls Tryz.prog 17 #[.pointer (some ⟨hb, 0, none⟩)] wr fun e w' => e = .returned (.string { data := #[83, 83, 72, 45, 50, 46, 48, 45, 120] }) ∧ wr = w') := Lib.hid (peerS ad hb (.done P9) wr g3.h)
        have HWN : Hid (Calls Tryz.prog 18 #[.pointer (some ⟨rb, 0, none⟩)] wr fun e w' => e = .returned (.int .i64 0) ∧ wr = w') := Lib.hid (waits_ok rb qs.length sr (kAt key sr) [] wr g3.rd (kAt_len LK.out _))
        have HBL := Lib.hid g3.b
        clear g1 g2 g3 g4 h0 HX
        go_upto_region 43 with fail
        go_wp2_with (first | (go_at_call 17; refine HPN.out.mono ?_; rintro e w' ⟨rfl, rfl⟩) | (go_at_call 18; refine HWN.out.mono ?_; rintro e w' ⟨rfl, rfl⟩))
        go_ret
        exact ⟨rfl, HBL.out⟩
      · have he : (by8 rem).toList.isEmpty = false := by rw [by8_empty]; exact decide_eq_false (by omega)
        have hzT := by8_size rem
        obtain ⟨c0, c33, c34, cK⟩ := tlk_cells HX.out.2.2.1.t LK.out
        have CT := Lib.hid (fun (h : k < nc) => HP.out.cuts k h)
        go_upto_if 88 with fail
        go_cut [15] (fun v wx => ∃ n : Nat, v = .int .i64 n ∧ 1 ≤ n ∧ n ≤ rem.length ∧ wr = wx)
        case first =>
          by_cases hil : k < nc
          · obtain ⟨g, off, z, rfl, hc, hg⟩ := CT.out hil
            have cz : wr.cell? ⟨g, off + k, none⟩ = some (.int .i64 z) := by rw [HX.out.2.2.1.b.cell (p := ⟨g, off + k, none⟩) hg]; exact hc
            obtain ⟨kk, hkk, hbit⟩ := and63 z
            have ek : ((k : Int) < (nc : Int)) = True := eq_true (by omega)
            clear hc hg CT
            go_wp2_with fail
            go_meet
            exact ⟨min rem.length (1 + kk), val_int (by omega), by omega, by omega, rfl⟩
          · have ek : ((k : Int) < (nc : Int)) = False := eq_false (by omega)
            go_wp2_with fail
            go_meet
            exact ⟨rem.length, rfl, h0, Nat.le_refl _, rfl⟩
        case rest =>
        obtain ⟨n, rfl, hn1, hn2, rfl⟩ := hcut
        have hstep := HI.step (a := rem.take n) (b := rem.drop n) (by rw [List.take_append_drop]; exact HX.out.1)
        obtain ⟨hres, hHI, hGl⟩ := hstep
        have hf := feedN ad w wr hb st (rem.take n) (by rw [List.length_take]; omega) HP.out.es HX.out.2.2.1.b (by have := HX.out.2.2.1.lt; omega) HX.out.2.2.1.h
        rw [hres ad] at hf
        rw [List.length_take] at hGl
        obtain ⟨st1, hst1⟩ : ∃ x, x = (run (rem.take n) st).1 := ⟨_, rfl⟩
        obtain ⟨G, hG⟩ : ∃ x, x = (run (rem.take n) st).2 := ⟨_, rfl⟩
        rw [← hst1] at hf hHI
        rw [← hG] at hf hHI hGl
        have HF : Hid (Calls Tryz.prog 11 #[.pointer (some ⟨hb, 0, none⟩), .string ((by8 rem).extract 0 n)] wr fun e w' => e = .returned (.tuple #[.string (by8 G), .nilIface]) ∧ HSt ad w' hb st1 ∧ Below w.heap.size w w' ∧ Keeps (fun k => k = hb) wr w') := Lib.hid (by
          rw [by8_take]; exact hf)
        have HDR := Lib.hid (by8_drop rem n rem.length rfl)
        have HH := Lib.hid hHI
        have hdl : (rem.drop n).length = rem.length - n := List.length_drop
        clear hf hst1 hG hHI hres c0 c33 c34 cK CT
        go_upto_region 32 with (go_at_call 11; refine HF.out.mono ?_; rintro e w5 ⟨rfl, hH5, hb5, hk5⟩)
        have L5 := Lib.hid (HX.out.2.2.1.hear hH5 hk5)
        have FR := Lib.hid (Pt.feed_ok rb c sr (kAt key sr) rs G w5 L5.out.rd (kAt_len LK.out _) (by omega))
        clear hH5 hb5 hk5 HF
        go_upto_region 33 with (go_at_call 12; refine FR.out.mono ?_; rintro e w6 ⟨⟨u6, rfl⟩, hb6, hk6⟩)
        rw [HDR.out]
        have L6 := Lib.hid (L5.out.read (rs' := rs ++ G) hb6 hk6)
        have hl6 : (rs ++ G).length + (rem.drop n).length ≤ 70000 := by rw [List.length_append]; omega
        have hk7 : (k + 1) + (rem.drop n).length ≤ 70000 := by omega
        have hdn : (by8 (rem.drop n)).size < (by8 rem).size := by rw [by8_size, by8_size]; omega
        have HSR := Lib.hid HX.out.2.2.2
        obtain ⟨rem2, hrem2⟩ : ∃ x, x = rem.drop n := ⟨_, rfl⟩
        rw [← hrem2] at HH hl6 hk7 hdn ⊢
        generalize rs ++ G = rs1 at *
        clear hb6 hk6 FR L5 HDR hdl hrem2 HX hGl
        go_loopw [13] (fun v13 wx => ∃ (c : Nat) (sr : Bool) (rs : S), v13 = .int .i64 (c : Nat) ∧ c ≤ qs.length ∧ rs.length + rem2.length ≤ 70000 ∧ Hid (HI rem2 st1 rs (rst Bg Or key K qs c) ∧ LH w ad tb hb wb rb (tlk al nl cl key K ac nc cc) key (.slice ao qs.length cap) xs qs c sr st1 rs wx ∧ ((c : Int) = K ∨ sr = sl K c))) (fun v _ => 11 - (intOf v).toNat)
        case atStart => exact ⟨c, sr, rs1, rfl, hcq, hl6, Lib.hid ⟨HH.out, L6.out, HSR.out⟩⟩
        case round =>
        clear L6 HSR HH hl6 hrr hcq hn1 hn2
        obtain ⟨c, sr, rs, rfl, hcq, hl6, HX⟩ := hrel
        obtain ⟨c0, c33, c34, cK⟩ := tlk_cells HX.out.2.1.t LK.out
        go_upto_if 116 with fail
        go_cut [13] (fun v wx => v = .int .i64 (c : Nat) ∧ Hid (HI rem2 st1 rs (rst Bg Or key K qs c) ∧ LH w ad tb hb wb rb (tlk al nl cl key K ac nc cc) key (.slice ao qs.length cap) xs qs c (sl K c) st1 rs wx))
        case first =>
          by_cases hK : (c : Int) = K
          · have dK : ((c : Int) == K) = true := by rw [beq_iff_eq]; exact hK
            have SL := Lib.hid (Pt.open_ok rb c tRd sr (kAt key sr) key [.string (by8 rs), .nilIface] _ HX.out.2.1.rd (kAt_len LK.out _) LK.out)
            have SO := Lib.hid (sl_on hK)
            have SZ : Hid ((byv key).length = 32) := Lib.hid (by rw [byv_len]; exact LK.out)
            clear hK
            go_upto_region 34 with fail
            go_wp2_with (first | refine load_range cK Tryz.underlying23 rfl arr32_size SZ.out rfl rfl rfl ?_ | (go_at_call 13; refine SL.out.mono ?_; rintro e w5 ⟨⟨u5, rfl⟩, hb5, hk5⟩; have HB5 := Lib.hid (HX.out.2.1.read (sr' := true) (rs' := rs) hb5 hk5); clear hb5 hk5))
            go_meet
            refine ⟨rfl, ?_⟩
            rw [SO.out]
            exact Lib.hid ⟨HX.out.1, HB5.out⟩
          · have dK : ((c : Int) == K) = false := by rw [beq_eq_false_iff_ne]; exact hK
            have e : sr = sl K c := HX.out.2.2.resolve_left hK
            rw [e] at HX
            clear e hK
            go_wp2_with fail
            go_meet
            exact ⟨rfl, Lib.hid ⟨HX.out.1, HX.out.2.1⟩⟩
        case rest =>
        obtain ⟨rfl, HY⟩ := hcut
        clear HX c0 c33 c34 cK
        obtain ⟨X, hX⟩ := HY.out.1.pre
        by_cases hwh : ∃ q, qs[c]? = some q ∧ (pk Bg Or key K c q.p).length ≤ rs.length
        · obtain ⟨q, hq, hpl⟩ := hwh
          have hcl : c < qs.length := (List.getElem?_eq_some_iff.1 hq).1
          obtain ⟨T, hT⟩ : ∃ T, rs = pk Bg Or key K c q.p ++ T := by
            refine ⟨rs.drop (pk Bg Or key K c q.p).length, ?_⟩
            rw [rst_next hq] at hX
            have h1 := congrArg (List.take (pk Bg Or key K c q.p).length) hX
            rw [List.take_append_of_le_length hpl, List.take_left' rfl] at h1
            have h2 := List.take_append_drop (pk Bg Or key K c q.p).length rs
            rw [h1] at h2
            exact h2.symm
          subst hT
          rw [List.length_append] at hl6
          have hok := HY.out.2.td.ok q (List.mem_of_getElem? hq)
          have NX := Lib.hid (nextC_ok Bg Or rb c (sl K c) (kAt key (sl K c)) q.p T wc HY.out.2.rd (kAt_len LK.out _) (HP.out.pc.below HY.out.2.b) (by show (pk Bg Or key K c q.p ++ T).length ≤ _; rw [List.length_append]; omega) (by omega) hok.pl.2 hok.pl.1)
          have HIE : Hid (HI rem2 st1 T (rst Bg Or key K qs (c + 1))) := Lib.hid (by have := HY.out.1; rw [rst_next hq] at this; exact this.eat)
          have HOK := Lib.hid (And.intro hok hq)
          have hlT : T.length + rem2.length ≤ 70000 := by omega
          clear hok hX hpl hl6 hq
          go_upto_region 36 with (go_at_call 14; refine NX.out.mono ?_; rintro e w8 ⟨rfl, hb8, hk8⟩)
          have L8 := Lib.hid (HY.out.2.read (c' := c + 1) (rs' := T) hb8 hk8)
          have PA : Hid (Calls Tryz.prog 15 #[.string (by8 q.p)] w8 fun e w' => Mg.PPost q.kn q.u q.s q.n q.b w8 e w') := Lib.hid (Mg.parse_ok q.kn q.ls q.u q.s q.n q.b w8 (HP.out.rows.below L8.out.b) HOK.out.1.l HOK.out.1.f HOK.out.1.m)
          clear hb8 hk8 NX HY
          go_upto_region 40 with (go_at_call 15; refine PA.out.mono ?_; rintro e w9 ⟨⟨au, aq, an, ab, nu, cu, nq, cq, nn, cn, nb, cb, rfl, hv9⟩, hb9⟩)
          refine wp_gen (fun wx => Blk wx w9.heap.size tM [.int .i64 (q.kn : Nat), .slice au nu cu, .slice aq nq cq, .slice an nn cn, .slice ab nb cb] ∧ FV (fun _ => False) wx q.u q.s q.n q.b au aq an ab nu cu nq cq nn cn nb cb ∧ LH w ad tb hb wb rb (tlk al nl cl key K ac nc cc) key (.slice ao qs.length cap) xs qs (c + 1) (sl K c) st1 T wx) ⟨Blk.new w9 tM _, hv9.below (below1 _ _), (L8.out.below hb9).below (below1 _ _)⟩ ?_
          rintro wq ⟨M10, V10, L10⟩
          generalize w9.heap.size = m2 at *
          obtain ⟨g, off, cap', cs, eV, hgl, hrg, hev⟩ := L10.td.at HOK.out.2
          obtain ⟨bu, bq, bn, bb, mu, du, mq, dq, mn, dn, mm, db, rfl, hve⟩ := hev
          have e1 : ao = some ⟨g, off, none⟩ := by injection eV
          have BBQ : ∀ w', Rw (wq.drewN 1) w' → Below wq.heap.size wq w' := fun w' h => (below_drewN (Below.refl wq.heap.size wq) 1).trans h
          have LN : Hid (q.u.length ≤ 100 ∧ q.s.length ≤ 100 ∧ q.n.length ≤ 100 ∧ q.b.length ≤ 100 ∧ ∀ l ∈ q.n, l.length ≤ 100) := Lib.hid (by
            have m := HOK.out.1.m
            exact ⟨Nat.le_trans m.lu (by decide), Nat.le_trans m.fw.s.1 (by decide), Nat.le_trans m.fw.n.1 (by decide), Nat.le_trans m.lb (by decide), fun l hl => Nat.le_trans (m.fw.n.2 l hl) (by decide)⟩)
          have SM : Hid (∀ w', Rw (wq.drewN 1) w' → Calls Tryz.prog 16 #[.agg #[.int .i64 (q.kn : Nat), .slice au nu cu, .slice aq nq cq, .slice an nn cn, .slice ab nb cb], .agg #[.int .i64 (q.kn : Nat), .slice bu mu du, .slice bq mq dq, .slice bn mn dn, .slice bb mm db]] w' fun e w'' => e = .returned (.bool true) ∧ Below w'.heap.size w' w'') := Lib.hid fun w' hw' => Fe.same_ok (q.kn : Nat) q.u q.s q.n q.b au aq an ab bu bq bn bb nu cu nq cq nn cn nb cb du dq dn db mu mq mn mm w' (V10.below (BBQ w' hw')) ((hve.mono (fun _ _ e => e.elim)).below (BBQ w' hw')) LN.out
          have MB : Hid (∀ w', Rw (wq.drewN 1) w' → Blk w' m2 tM [.int .i64 (q.kn : Nat), .slice au nu cu, .slice aq nq cq, .slice an nn cn, .slice ab nb cb]) := Lib.hid fun w' hw' => M10.below (BBQ w' hw') M10.lt
          have RG : Hid (∀ w', Rw (wq.drewN 1) w' → w'.rangeAt g (off + c * 5) [.int .i64 (q.kn : Nat), .slice bu mu du, .slice bq mq dq, .slice bn mn dn, .slice bb mm db]) := Lib.hid fun w' hw' j v hj => by
            rw [(BBQ w' hw').cell (p := ⟨g, off + c * 5 + j, none⟩) hgl]
            exact hrg j v hj
          have LQ := Lib.hid (fun w' h => L10.below (BBQ w' h))
          clear M10 V10 L10 hrg hgl hve eV hv9 hb9 PA L8 BBQ
          subst e1
          have dg : ((c : Int) ≥ (qs.length : Int)) = False := eq_false (by omega)
          have dg2 : ((qs.length : Int) ≤ (c : Int)) = False := eq_false (by omega)
          (refine region_quiet (C := fun w' => Rw (wq.drewN 1) w') (by kernel_rfl) (by kernel_rfl) (Rw.refl _) ?_)
          (iterate 9 ((with_reducible refine wpQuiet_step (fun K hK => ?_)); refine quiet_autoE (by first | rfl | simp [Region.wanted, yielded]) ?_; apply Exists.intro; refine ⟨fun w' hw' => ?_, ?_⟩; (focus (go_simp; (first | done | rfl | ((try go_ints); (try simp only [↓IntWalk.iteOmega, true_and]); (try go_simp); (first | done | rfl))))); go_simp; (with_reducible apply hK); clear hK K))
          ((with_reducible refine wpQuiet_step (fun K hK => ?_)); refine quiet_loadB (fun w' hw' => MB.out w' hw') Tryz.underlying49 rfl Mg.msg_size rfl (by first | rfl | simp [Region.wanted, yielded]) rfl (by go_simp) ?_; go_simp; (with_reducible apply hK); clear hK K)
          (iterate 3 ((with_reducible refine wpQuiet_step (fun K hK => ?_)); refine quiet_autoE (by first | rfl | simp [Region.wanted, yielded]) ?_; apply Exists.intro; refine ⟨fun w' hw' => ?_, ?_⟩; (focus (go_simp; (first | done | rfl | ((try go_ints); (try simp only [↓IntWalk.iteOmega, true_and]); (try go_simp); (first | done | rfl))))); go_simp; (with_reducible apply hK); clear hK K))
          ((with_reducible refine wpQuiet_step (fun K hK => ?_)); refine quiet_loadN (b := g) (off := off + c * 5) (fun w' hw' => RG.out w' hw') Tryz.underlying46 rfl Fe.tR_size (by first | rfl | simp [Region.wanted, yielded]) rfl (by go_simp) ?_; go_simp; (with_reducible apply hK); clear hK K)
          ((with_reducible refine wpQuiet_step (fun K hK => ?_)); refine quiet_callE (by first | rfl | simp [Region.wanted, yielded]) ?_; apply Exists.intro; apply Exists.intro; refine ⟨fun w' => ?_, ?_⟩; (focus (go_simp; try (first | exact ⟨rfl, rfl⟩ | rfl))); apply Exists.intro; refine ⟨fun w' hw' => (SM.out w' hw').mono (fun _ _ h => ⟨h.1, Rw.trans hw' h.2⟩), ?_⟩; go_simp; (with_reducible apply hK); clear hK K)
          (repeat ((with_reducible refine wpQuiet_step (fun K hK => ?_)); refine quiet_autoE (by first | rfl | simp [Region.wanted, yielded]) ?_; apply Exists.intro; refine ⟨fun w' hw' => ?_, ?_⟩; (focus (go_simp; (first | done | rfl | ((try go_ints); (try simp only [↓IntWalk.iteOmega, true_and]); (try go_simp); (first | done | rfl))))); go_simp; (with_reducible apply hK); clear hK K))
          refine wpQuiet_nil ?_
          intro wz hz
          have LZ := Lib.hid (LQ.out wz hz)
          clear hz LQ RG MB SM
          go_wp2_with fail
          go_roundw
          case rel => exact ⟨c + 1, sl K c, T, by go_num, by omega, hlT, Lib.hid ⟨HIE.out, LZ.out, by
            by_cases hK : ((c + 1 : Nat) : Int) = K
            · exact .inl hK
            · exact .inr (by rw [← sl_off hK, slW_next])⟩⟩
          case measure => simp [intOf]; omega
        · have hsh : short Bg Or key K qs c rs := fun q hq => Nat.lt_of_not_le (fun h => hwh ⟨q, hq, h⟩)
          have NX : Hid (Calls Tryz.prog 14 #[.pointer (some ⟨rb, 0, none⟩)] wc fun e w' => e = .returned (.tuple #[.string (by8 []), .bool false, .nilIface]) ∧ Blk w' rb tRd (rdC c (sl K c) (kAt key (sl K c)) rs) ∧ Below wc.heap.size wc w') := Lib.hid (by
            rcases Nat.lt_or_ge rs.length 4 with h4 | h4
            · exact nextA_ok rb c (sl K c) (kAt key (sl K c)) rs wc HY.out.2.rd (kAt_len LK.out _) h4
            · rcases Nat.lt_or_ge c qs.length with h | h
              · obtain ⟨q, hq⟩ : ∃ q, qs[c]? = some q := ⟨_, List.getElem?_eq_getElem h⟩
                have hok := (HY.out.2.td.ok q (List.mem_of_getElem? hq)).pl
                exact nextB_ok Bg Or rb c (sl K c) (kAt key (sl K c)) rs q.p X wc HY.out.2.rd (kAt_len LK.out _) h4 (by omega) hok.2 hok.1 ⟨rst Bg Or key K qs (c + 1), by rw [hX, rst_next hq]; rfl⟩ (hsh q hq)
              · rw [rst_end h] at hX
                have := congrArg List.length hX
                rw [List.length_append, List.length_nil] at this
                omega)
          have HSH := Lib.hid hsh
          clear hwh hX hsh
          go_upto_region 36 with (go_at_call 14; refine NX.out.mono ?_; rintro e w8 ⟨rfl, -, hb8⟩)
          have L8 := Lib.hid (HY.out.2.below hb8)
          clear hb8 NX
          go_wp2_with fail
          go_roundw
          case rel => exact ⟨rem2, st1, rs, c, k + 1, sl K c, rfl, rfl, by go_num, hcq, hk7, hl6, Lib.hid ⟨HY.out.1, HSH.out, L8.out, .inr rfl⟩⟩
          case measure => simp [strLen]; omega
end Sp
end Go.Proofs.YtcbkbjpdfanjpaaGreatDoor
