/-
NetPlays, walked.
-/
import Derived.Test.YtbllecnhhcfcfaaDoorNetAll2
import Derived.Deep.CutBlock
namespace Go.Proofs.YtbllecnhhcfcfaaDoor
open Go.RowKit

theorem wp_gen {P : Program} {c : Code} {Q : Exit → Act → World → Prop} {a : Act} {W : World} (R : World → Prop) (h : R W) (k : ∀ w1, R w1 → Code.wp P c Q a w1) : Code.wp P c Q a W := k W h
def NActsAt (w : World) (a : Option Addr) (len : Nat) : Prop :=
  ∀ k, k < len → ∃ (b off : Nat) (kd way n : Int) (s : ByteArray) (y : Nat), a = some ⟨b, off, none⟩ ∧ b < w.heap.size ∧ y < 256 ∧ w.cell? ⟨b, off + k * 5, none⟩ = some (.int .i64 kd) ∧ w.cell? ⟨b, off + k * 5 + 1, none⟩ = some (.int .i64 way) ∧
    w.cell? ⟨b, off + k * 5 + 2, none⟩ = some (.int .i64 n) ∧ w.cell? ⟨b, off + k * 5 + 3, none⟩ = some (.string s) ∧ w.cell? ⟨b, off + k * 5 + 4, none⟩ = some (.int .u8 (y : Nat))
/-- the law under way: the Wire in block b, the law's ways in block gw -/
structure NP (w wr : World) (b gw : Nat) (lw lg : List ByteArray) (room : Nat) (d : Bool) : Prop where
  wd : WD wr b lw room d
  two : lg.length = 2
  gb : Blk wr gw 9 (svs lg)
  bel : Below w.heap.size w wr
  bw : w.heap.size ≤ b
  gww : w.heap.size ≤ gw
  ne : b ≠ gw
variable {w wr wy : World} {b gw : Nat} {lw lg : List ByteArray} {room : Nat} {d : Bool}
theorem NP.below (h : NP w wr b gw lw lg room d) (hb : Below wr.heap.size wr wy) : NP w wy b gw lw lg room d :=
  { h with wd := h.wd.below hb h.wd.blk.lt, gb := h.gb.below hb h.gb.lt, bel := h.bel.trans (hb.mono h.bel.size) }
theorem NP.drew (h : NP w wr b gw lw lg room d) (n : Nat) : NP w (wr.drewN n) b gw lw lg room d := h.below (below_drewN (Below.refl _ _) n)
theorem NP.wire (h : NP w wr b gw lw lg room d) (hk : Keeps (fun k => k = b) wr wy) {lw' : List ByteArray} {d' : Bool} (hw : WD wy b lw' room d') : NP w wy b gw lw' lg room d' :=
  { h with wd := hw, gb := hk.blk h.gb (fun e => h.ne e.symm), bel := h.bel.trans (hk.below h.bel.size (fun k hk' e => by have := h.bw; omega)) }
theorem NP.law (h : NP w wr b gw lw lg room d) (y : Nat) (x : ByteArray) : NP w (wr.setCell ⟨gw, y, none⟩ (.string x)) b gw lw (lg.set y x) room d :=
  { h with wd := h.wd.keeps ((Keeps.refl (fun k => k = gw) wr).set gw y _ (fun _ => rfl)) (fun e => h.ne e), two := by rw [List.length_set]; exact h.two, gb := by rw [← svs_set]; exact h.gb.set y _, bel := below_set' h.bel gw y _ h.gww }
theorem NP.way (h : NP w wr b gw lw lg room d) (y : Nat) (hy : y < 2) : wr.cell? ⟨gw, y, none⟩ = some (.string (lg.getD y emp0)) := h.gb.cell y _ (svs_get _ _ (by rw [h.two]; exact hy))
/-- new ways of the law -/
theorem NP.fresh (h : NP w wr b gw lw lg room d) : NP w (wr.alloc (.cells (svs [emp0, emp0]).toArray 9)) b wr.heap.size lw [emp0, emp0] room d :=
  { wd := (h.below (below1 wr _)).wd, two := rfl, gb := Blk.new wr _ _, bel := (h.below (below1 wr _)).bel, bw := h.bw, gww := h.bel.size, ne := by have := h.wd.blk.lt; omega }
theorem bend_parts (s : ByteArray) (k : Nat) (c : UInt8) (hk : k < s.size) : s.extract 0 k ++ ⟨#[c]⟩ ++ s.extract (k + 1) s.size = ⟨(s.data.toList.set k c).toArray⟩ := by
  apply ByteArray.ext
  apply Array.toList_inj.1
  have hl : s.data.toList.length = s.size := Array.length_toList
  have e0 : (s.extract 0 k).data.toList = s.data.toList.take k := by simp [ByteArray.data_extract]
  have e1 : (s.extract (k + 1) s.size).data.toList = s.data.toList.drop (k + 1) := by
    rw [ByteArray.data_extract, Array.toList_extract]
    simp only [List.extract_eq_take_drop]
    rw [List.take_of_length_le (by rw [List.length_drop, hl]; omega)]
  rw [ByteArray.data_append, ByteArray.data_append, Array.toList_append, Array.toList_append, e0, e1, List.set_eq_take_append_cons_drop, if_pos (by rw [hl]; exact hk)]
  simp
def small (ls : List ByteArray) (room : Nat) : Prop := ∀ y, y < 2 → (ls.getD y emp0).size ≤ room

set_option maxHeartbeats 0 in
set_option maxRecDepth 100000 in
theorem plays_ok (ad : Nat → Addr) (r : Int) (a : Option Addr) (len cap : Nat) (w : World) (hlen : len ≤ 9223372036854775807) (hS : SentF w 66 errGs ad) (hacts : NActsAt w a len) :
    Calls Tryd.prog 4 #[.int .i64 r, .slice a len cap] w fun e w' => e = .returned (.bool true) ∧ Below w.heap.size w w' := by
  have HC := Lib.hid hacts
  have HS := Lib.hid hS
  clear hacts hS
  obtain ⟨R, hR, hR1, hR2⟩ : ∃ R : Nat, R = roomN r ∧ 1 ≤ R ∧ R ≤ 16777216 := ⟨_, rfl, by unfold roomN; omega, by unfold roomN; omega⟩
  have hRr : (16777216 < r ∧ (R : Int) = 16777216) ∨ (r ≤ 16777216 ∧ 1 < r ∧ (R : Int) = r) ∨ (r ≤ 16777216 ∧ r ≤ 1 ∧ (R : Int) = 1) := by rw [hR]; unfold roomN; omega
  have HR := Lib.hid hR
  have HRR := Lib.hid hRr
  clear hR hRr
  go_enter Tryd.func4, Tryd.ntmps4
  go_wp2_with fail
  refine (awake_ok _).mono ?_
  rintro e w1 ⟨rfl, b1⟩
  go_wp2_with fail
  refine (new_w r _).mono ?_
  rintro e w2 ⟨rfl, hw2, b2⟩
  have W2 : WD w2 w1.heap.size [emp0, emp0] R false := ⟨by rw [HR.out]; exact hw2, rfl⟩
  have B2 := b1.trans (b2.mono b1.size)
  have hw1 := b1.size
  generalize w1.heap.size = b at *
  have P0 : NP w (w2.alloc (.cells (svs [emp0, emp0]).toArray 9)) b w2.heap.size [emp0, emp0] [emp0, emp0] R false :=
    { wd := W2.below (below1 w2 _) W2.blk.lt, two := rfl, gb := Blk.new w2 _ _, bel := B2.trans ((below1 w2 _).mono B2.size), bw := hw1, gww := B2.size, ne := by have := W2.blk.lt; omega }
  have NP0 := Lib.hid P0
  clear W2 B2 hw1 P0 b1 b2 hw2 w1
  go_upto_region 6 with fail
  go_cut [0] (fun v0 wx => v0 = .int .i64 R ∧ w2 = wx)
  case first =>
    -- BEGIN a
    rcases HRR.out with ⟨q1, q2⟩ | ⟨q1, q0, q2⟩ | ⟨q1, q0, q2⟩
    all_goals
      have Q := Lib.hid q2
      clear q2
      go_wp2_with fail
      go_meet
      exact ⟨by rw [Q.out], rfl⟩
    -- END a
  case rest => as_aux_lemma =>
  obtain ⟨rfl, rfl⟩ := hcut
  go_upto_region 10 with fail
  have NP1 := Lib.hid (NP0.out.drew 0)
  clear NP0
  go_loopw [6, 7, 8] (fun v6 v7 v8 wr => ∃ (i gw : Nat) (ls : List ByteArray) (d : Bool), v6 = .slice (some ⟨gw, 0, none⟩) 2 2 ∧ v7 = .bool (!d) ∧ v8 = .int .i64 i ∧ i ≤ 120 ∧ Hid (NP w wr b gw ls ls R d) ∧ Hid (small ls R) ∧ Hid (d = true → ls = [emp0, emp0])) (fun _ _ v8 _ => 120 - (intOf v8).toNat)
  case atStart => exact ⟨0, _, [emp0, emp0], false, rfl, rfl, rfl, by omega, NP1, Lib.hid (fun y hy => by (match y, hy with | 0, _ => exact Nat.zero_le _ | 1, _ => exact Nat.zero_le _)), Lib.hid (fun h => by cases h)⟩
  case round => as_aux_lemma =>
    clear NP1
    obtain ⟨i, gw, ls, d, rfl, rfl, rfl, hi, N, SM, DN⟩ := hrel
    by_cases hgo : i < len ∧ i < 120
    · obtain ⟨hg1, hg2⟩ := hgo
      obtain ⟨cb, off, kd, way, n, s, y, rfl, hcb, hy, q0, q1, q2, q3, q4⟩ := HC.out i hg1
      have keep : ∀ o, wr.cell? ⟨cb, o, none⟩ = w.cell? ⟨cb, o, none⟩ := fun o => N.out.bel.cell (p := ⟨cb, o, none⟩) hcb
      rw [← keep] at q0 q1 q2 q3 q4
      clear keep
      have N1 := Lib.hid (N.out.below (below1 wr (.cells #[.int .i64 kd, .int .i64 way, .int .i64 n, .string s, .int .u8 (y : Nat)] 39)))
      have A1 := Lib.hid (Blk.new wr 39 [.int .i64 kd, .int .i64 way, .int .i64 n, .string s, .int .u8 (y : Nat)])
      have HA : Hid (w.heap.size ≤ wr.heap.size ∧ b < wr.heap.size ∧ gw < wr.heap.size) := Lib.hid ⟨N.out.bel.size, N.out.wd.blk.lt, N.out.gb.lt⟩
      have hg1' : (i : Int) < len := by omega
      clear N
      go_upto_region 13 with fail
      refine wp_gen (fun wx => NP w wx b gw ls ls R d ∧ Blk wx wr.heap.size 39 [.int .i64 kd, .int .i64 way, .int .i64 n, .string s, .int .u8 (y : Nat)]) ⟨N1.out, A1.out⟩ ?_
      clear N1 A1 q0 q1 q2 q3 q4
      generalize wr.heap.size = ab at *
      rintro w3 ⟨n3, a3⟩
      have N3 := Lib.hid n3
      have A3 := Lib.hid a3
      have c0 := a3.cell 0 _ rfl
      have c1 := a3.cell 1 _ rfl
      clear n3 a3
      go_upto_block 2 with fail
      go_cut [6, 7, 10] (fun v6 v7 v10 wx => ∃ (gw' : Nat) (ls' : List ByteArray) (d' : Bool) (want : Nat), v6 = .slice (some ⟨gw', 0, none⟩) 2 2 ∧ v7 = .bool (!d') ∧ v10 = .int .i64 want ∧ Hid (NP w wx b gw' ls' ls' R d') ∧ Hid (Blk wx ab 39 [.int .i64 kd, .int .i64 way, .int .i64 n, .string s, .int .u8 (y : Nat)] ∧ gw' ≠ ab) ∧ Hid (small ls' R) ∧ Hid (d' = true → ls' = [emp0, emp0]) ∧ Hid ((kd = 4 ∧ want = 0) ∨ (kd ≠ 4 ∧ want = mayC way d')))
      case first =>
        -- BEGIN b
        by_cases hk4 : kd = 4
        · subst hk4
          by_cases hi20 : 20 < i
          · have hi21 : (20 : Int) < i := by omega
            clear c1 hi20
            go_wp2_with fail
            refine (down_any N3.out.wd).mono ?_
            rintro e w4 ⟨rfl, hw, hk⟩
            have n4 := N3.out.wire hk hw
            have N4 := Lib.hid n4.fresh
            have A4 := (hk.blk A3.out (fun e => by have := HA.out; omega))
            have z4 : ab < w4.heap.size := A4.lt
            have A5 := Lib.hid (And.intro (A4.alloc (.cells (svs [emp0, emp0]).toArray 9)) (show w4.heap.size ≠ ab by omega))
            clear hw hk N3 A3 c0 A4 n4 z4 hi21
            go_wp2_with fail
            go_meet
            exact ⟨_, [emp0, emp0], true, 0, rfl, rfl, rfl, N4, A5, Lib.hid (fun y hy => by (match y, hy with | 0, _ => exact Nat.zero_le _ | 1, _ => exact Nat.zero_le _)), Lib.hid (fun _ => rfl), Lib.hid (.inl ⟨rfl, rfl⟩)⟩
          · have hi21 : (i : Int) ≤ 20 := by omega
            have A5 := Lib.hid (And.intro A3.out (show gw ≠ ab by have := HA.out; omega))
            clear c1 hi20
            go_wp2_with fail
            go_meet
            exact ⟨gw, ls, d, 0, rfl, rfl, rfl, N3, A5, SM, DN, Lib.hid (.inl ⟨rfl, rfl⟩)⟩
        · have hkb : (kd == 4) = false := by simpa using hk4
          have A5 := Lib.hid (And.intro A3.out (show gw ≠ ab by have := HA.out; omega))
          have fin : ∀ want, want = mayC way d → Hid ((kd = 4 ∧ want = 0) ∨ (kd ≠ 4 ∧ want = mayC way d)) := fun want h => Lib.hid (.inr ⟨hk4, h⟩)
          have FIN := Lib.hid fin
          clear fin hk4
          rcases Int.lt_or_le way 0 with h1 | h1
          · go_wp2_with fail
            go_meet
            exact ⟨gw, ls, d, 1, rfl, rfl, rfl, N3, A5, SM, DN, FIN.out 1 (by unfold mayC; rw [if_pos (.inl h1)])⟩
          · rcases Int.lt_or_le 1 way with h2 | h2
            · go_wp2_with fail
              go_meet
              exact ⟨gw, ls, d, 1, rfl, rfl, rfl, N3, A5, SM, DN, FIN.out 1 (by unfold mayC; rw [if_pos (.inr h2)])⟩
            · cases d
              · go_wp2_with fail
                go_meet
                exact ⟨gw, ls, false, 0, rfl, rfl, rfl, N3, A5, SM, Lib.hid (fun h => by cases h), FIN.out 0 (by unfold mayC; rw [if_neg (by omega)]; rfl)⟩
              · go_wp2_with fail
                go_meet
                exact ⟨gw, ls, true, 18, rfl, rfl, rfl, N3, A5, SM, Lib.hid (fun _ => by first | exact DN.out trivial | exact DN.out rfl), FIN.out 18 (by unfold mayC; rw [if_neg (by omega)]; rfl)⟩
        -- END b
      case rest => as_aux_lemma =>
      rename World => w5
      obtain ⟨gw', ls', d', want, rfl, rfl, rfl, N4, A4, SM4, DN4, HW⟩ := hcut
      have c0 := A4.out.1.cell 0 _ rfl
      have c1 := A4.out.1.cell 1 _ rfl
      have c2 := A4.out.1.cell 2 _ rfl
      have c3 := A4.out.1.cell 3 _ rfl
      have c4 := A4.out.1.cell 4 _ rfl
      clear N3 A3 SM DN
      obtain ⟨hb, hhb⟩ : ∃ hb : Bool, hb = decide (want = 0 ∧ kd ≠ 4) := ⟨_, rfl⟩
      have HB := Lib.hid hhb
      go_upto_region 24 with (go_at_call 6; refine (cut_ok s 30 _).mono ?_; rintro e w' ⟨rfl, rfl⟩)
      have hsz : (s.extract 0 30).size ≤ 30 := by rw [ByteArray.size_extract]; omega
      generalize s.extract 0 30 = s' at *
      go_cut [78] (fun v78 wx => v78 = .bool hb ∧ w5 = wx)
      case first =>
        -- BEGIN c
        have hcs : (((want : Nat) : Int) == 0) = false ∧ hb = false ∨ want = 0 ∧ kd = 4 ∧ hb = false ∨ want = 0 ∧ (kd != 4) = true ∧ hb = true := by
          rw [hhb]
          by_cases h1 : want = 0
          · by_cases h2 : kd = 4
            · exact .inr (.inl ⟨h1, h2, by simp [h2]⟩)
            · exact .inr (.inr ⟨h1, by simpa using h2, by simp [h1, h2]⟩)
          · exact .inl ⟨by simp; omega, by simp [h1]⟩
        clear hhb
        rcases hcs with ⟨h1, rfl⟩ | ⟨rfl, rfl, rfl⟩ | ⟨rfl, h2, rfl⟩
        all_goals
          go_wp2_with fail
          go_meet
          exact ⟨rfl, rfl⟩
        -- END c
      case rest => as_aux_lemma =>
      obtain ⟨rfl, rfl⟩ := hcut
      clear hhb
      go_upto_if 78 with fail
      go_cut [12] (fun v12 wx => ∃ hv : ByteArray, v12 = .string hv ∧ w5 = wx ∧ Hid ((hb = true ∧ ∃ y0 : Nat, y0 < 2 ∧ way = y0 ∧ hv = ls'.getD y0 emp0) ∨ (hb = false ∧ hv = emp0)))
      case first =>
        -- BEGIN d
        cases hb
        · clear c0 c1 c2 c3 c4
          go_wp2_with fail
          go_meet
          exact ⟨_, rfl, rfl, Lib.hid (.inr ⟨rfl, rfl⟩)⟩
        · have hw0 : want = 0 ∧ kd ≠ 4 := of_decide_eq_true HB.out.symm
          have hm : mayC way d' = 0 := by
            rcases HW.out with h | h
            · exact absurd h.1 hw0.2
            · rw [← h.2]; exact hw0.1
          have hy0 : ∃ y0 : Nat, y0 < 2 ∧ way = y0 := by
            unfold mayC at hm
            split at hm
            · cases hm
            · exact ⟨way.toNat, by omega, by omega⟩
          obtain ⟨y0, hy0, rfl⟩ := hy0
          have cw := N4.out.way y0 hy0
          have hy1 : (y0 : Int) < 2 := by omega
          obtain ⟨hv, hhv⟩ : ∃ hv, hv = ls'.getD y0 emp0 := ⟨_, rfl⟩
          rw [← hhv] at cw
          have HHV := Lib.hid hhv
          clear hw0 hm hhv c0 c2 c3 c4
          go_wp2_with fail
          go_meet
          exact ⟨hv, rfl, rfl, Lib.hid (.inl ⟨rfl, y0, hy0, rfl, HHV.out⟩)⟩
        -- END d
      case rest => as_aux_lemma =>
      obtain ⟨hv, rfl, rfl, HV⟩ := hcut
      have hvs : hv.size ≤ 16777216 := by
        rcases HV.out with ⟨_, y0, h0, _, e⟩ | ⟨_, e⟩
        · rw [e]; exact Nat.le_trans (SM4.out y0 h0) hR2
        · rw [e]; exact Nat.zero_le _
      obtain ⟨tn, htn⟩ : ∃ tn, tn = takes n hv := ⟨_, rfl⟩
      have HTN := Lib.hid htn
      go_upto_region 26 with fail
      go_cut [13] (fun v13 wx => v13 = .int .i64 tn ∧ w5 = wx)
      case first =>
        -- BEGIN e
        have hcs : (n ≤ 0 ∧ tn = 0) ∨ (0 < n ∧ n < hv.size ∧ (tn : Int) = n) ∨ (0 < n ∧ (hv.size : Int) ≤ n ∧ tn = hv.size) := by rw [htn]; unfold takes; omega
        clear htn
        rcases hcs with ⟨h1, h2⟩ | ⟨h1, h2, h3⟩ | ⟨h1, h2, h3⟩
        · subst h2
          rcases Nat.eq_zero_or_pos hv.size with h3 | h3
          all_goals
            go_wp2_with fail
            go_meet
            exact ⟨rfl, rfl⟩
        · have H3 := Lib.hid h3
          clear h3
          go_wp2_with fail
          go_meet
          exact ⟨by rw [H3.out], rfl⟩
        · have H3 := Lib.hid h3
          clear h3
          go_wp2_with fail
          all_goals
            go_meet
            have H4 := H3.out
            exact ⟨congrArg (Value.int .i64) (by omega), rfl⟩
        -- END e
      case rest => as_aux_lemma =>
      obtain ⟨rfl, rfl⟩ := hcut
      clear htn
      go_upto_block 3 with fail
      go_cut [] (fun wx => ∃ ls2, Hid (NP w wx b gw' ls2 ls2 R d') ∧ Hid (small ls2 R) ∧ Hid (d' = true → ls2 = [emp0, emp0]))
      case first =>
        have HSW := Lib.hid (HS.out.same N4.out.bel)
        have hab : ab ≠ b := by have := HA.out; omega
        have hag := A4.out.2
        have htn : tn ≤ hv.size := by rw [HTN.out]; unfold takes; omega
        cases hb
        · have hv0 : hv = emp0 := by
            rcases HV.out with ⟨h, _⟩ | ⟨_, e⟩
            · cases h
            · exact e
          have hx : hv.extract 0 tn = ⟨#[]⟩ := by rw [hv0]; exact ByteArray.ext (by simp [emp0])
          have hz : hv.size = 0 := by rw [hv0]; rfl
          have ht0 : tn = 0 := by omega
          clear hv0
          by_cases hk4 : kd = 4
          · as_aux_lemma =>
            -- BEGIN k4
            subst hk4
            clear c1 c2 c3 c4 hx ht0 hz htn
            go_wp2_with fail
            go_meet
            exact ⟨ls', N4, SM4, DN4⟩
            -- END k4
          · have hw : want ≠ 0 ∧ want = mayC way d' := by
              rcases HW.out with h | h
              · exact absurd h.1 hk4
              · refine ⟨fun e => ?_, h.2⟩
                have := HB.out
                simp [e, hk4] at this
            have hm : mayC way d' ≠ 0 := by rw [← hw.2]; exact hw.1
            have hw20 : want ≤ 20 := by rw [hw.2]; unfold mayC; (repeat' split) <;> omega
            have hwb : (((want : Nat) : Int) == 0) = false := by simp; exact hw.1
            have CO := Lib.hid (fun W h => code_any ad W h want hw20)
            have MW := Lib.hid hw.2
            subst ht0
            clear hw hw20
            by_cases k0 : kd = 0
            · as_aux_lemma =>
              -- BEGIN n0
              subst k0
              have M := put_no ad HSW.out N4.out.wd way s' hm
              rw [← MW.out] at M
              generalize errV ad want = ev at *
              clear hm hx c2 c3 c4
              go_wp2_with fail
              refine M.mono ?_
              rintro e w' ⟨rfl, rfl⟩
              go_wp2_with fail
              refine (CO.out _ HSW.out).mono ?_
              rintro e w' ⟨rfl, rfl⟩
              go_wp2_with fail
              go_meet
              exact ⟨ls', N4, SM4, DN4⟩
              -- END n0
            · by_cases k1 : kd = 1
              · as_aux_lemma =>
                -- BEGIN n1
                subst k1
                have M := take_no ad HSW.out N4.out.wd way n hm
                rw [← MW.out] at M
                generalize errV ad want = ev at *
                clear hm c3 c4
                go_wp2_with fail
                refine M.mono ?_
                rintro e w' ⟨rfl, rfl⟩
                go_wp2_with fail
                refine (CO.out _ HSW.out).mono ?_
                rintro e w' ⟨rfl, rfl⟩
                go_wp2_with fail
                go_meet
                exact ⟨ls', N4, SM4, DN4⟩
                -- END n1
              · by_cases k2 : kd = 2
                · as_aux_lemma =>
                  -- BEGIN n2
                  subst k2
                  have M := bend_no ad HSW.out N4.out.wd way n y hm
                  rw [← MW.out] at M
                  generalize errV ad want = ev at *
                  clear hm c3 hx
                  go_wp2_with fail
                  refine M.mono ?_
                  rintro e w' ⟨rfl, rfl⟩
                  go_wp2_with fail
                  refine (CO.out _ HSW.out).mono ?_
                  rintro e w' ⟨rfl, rfl⟩
                  go_wp2_with fail
                  go_meet
                  exact ⟨ls', N4, SM4, DN4⟩
                  -- END n2
                · by_cases k3 : kd = 3
                  · as_aux_lemma =>
                    -- BEGIN n3
                    subst k3
                    have M := lose_no ad HSW.out N4.out.wd way n hm
                    rw [← MW.out] at M
                    generalize errV ad want = ev at *
                    clear hm c3 c4 hx
                    go_wp2_with fail
                    refine M.mono ?_
                    rintro e w' ⟨rfl, rfl⟩
                    go_wp2_with fail
                    refine (CO.out _ HSW.out).mono ?_
                    rintro e w' ⟨rfl, rfl⟩
                    go_wp2_with fail
                    go_meet
                    exact ⟨ls', N4, SM4, DN4⟩
                    -- END n3
                  · as_aux_lemma =>
                    -- BEGIN n4
                    have b0 : (kd == 0) = false := by simpa using k0
                    have b1 : (kd == 1) = false := by simpa using k1
                    have b2 : (kd == 2) = false := by simpa using k2
                    have b3 : (kd == 3) = false := by simpa using k3
                    clear hx c1 c2 c3 c4 k0 k1 k2 k3 hk4
                    go_wp2_with fail
                    go_meet
                    exact ⟨ls', N4, SM4, DN4⟩
                    -- END n4
        · have hw : want = 0 ∧ kd ≠ 4 := of_decide_eq_true HB.out.symm
          obtain ⟨hw0, hkd⟩ := hw
          have hmm : mayC way d' = 0 := by
            rcases HW.out with h | h
            · exact absurd h.1 hkd
            · rw [← h.2]; exact hw0
          subst hw0
          obtain ⟨y0, hy0, rfl, hhv⟩ : ∃ y0 : Nat, y0 < 2 ∧ way = y0 ∧ hv = ls'.getD y0 emp0 := by
            rcases HV.out with ⟨_, h⟩ | ⟨h, _⟩
            · exact h
            · cases h
          obtain rfl : d' = false := by
            cases d'
            · rfl
            · unfold mayC at hmm; rw [if_neg (by omega)] at hmm; cases hmm
          have HHV := Lib.hid hhv
          have hvR : hv.size ≤ R := by rw [hhv]; exact SM4.out y0 hy0
          have hy1 : (y0 : Int) < 2 := by omega
          have hln : ls'.length = 2 := N4.out.two
          have sm : ∀ x : ByteArray, x.size ≤ R → small (ls'.set y0 x) R := fun x hx z hz => by
            rw [List.getD_eq_getElem?_getD]
            by_cases e : z = y0
            · subst e; rw [List.getElem?_set_self (by omega)]; exact hx
            · rw [List.getElem?_set_ne (fun h => e h.symm), ← List.getD_eq_getElem?_getD]; exact SM4.out z hz
          have SMX := Lib.hid sm
          have DN0 : Hid (∀ l : List ByteArray, false = true → l = [emp0, emp0]) := Lib.hid (fun l h => by cases h)
          have TLE := Lib.hid htn
          clear hmm sm hhv hln HW HV HB
          by_cases k0 : kd = 0
          · as_aux_lemma =>
            -- BEGIN y0
            subst k0
            obtain ⟨lf, hlf⟩ : ∃ lf, lf = R - hv.size := ⟨_, rfl⟩
            have M := put_yes N4.out.wd y0 hy0 s' hR2 (SM4.out y0 hy0)
            rw [← HHV.out, ← hlf] at M
            have e1 : (R : Int) - (hv.size : Int) = (lf : Int) := by omega
            have hfs : (hv ++ s'.extract 0 lf).size ≤ R := by rw [ByteArray.size_append, ByteArray.size_extract]; omega
            have HFS := Lib.hid hfs
            have hcs : (s'.size ≤ lf ∧ min s'.size lf = s'.size ∧ s'.extract 0 lf = s') ∨ (lf < s'.size ∧ min s'.size lf = lf) := by
              rcases Nat.lt_or_ge lf s'.size with h | h
              · exact .inr ⟨h, by omega⟩
              · exact .inl ⟨h, by omega, by apply ByteArray.ext; simp [ByteArray.data_extract]; omega⟩
            clear hfs hlf c2 c3 c4
            rcases hcs with ⟨g1, g2, g3⟩ | ⟨g1, g2⟩
            · rw [g2, g3] at M
              rw [g3] at HFS
              clear g2 g3
              go_wp2_with fail
              refine M.mono ?_
              rintro e w6 ⟨rfl, hw, hk⟩
              have n6 := N4.out.wire hk hw
              have N6 := Lib.hid n6
              have cw := n6.way y0 hy0
              rw [← HHV.out] at cw
              have fw := n6.gb.free y0
              have A6 := hk.blk A4.out.1 hab
              have c1' := A6.cell 1 _ rfl
              have HS6 := Lib.hid (HS.out.same n6.bel)
              clear hw hk n6 c0 c1 M A6
              go_upto_region 33 with fail
              (refine still_tail 10 (by kernel_rfl) (by kernel_rfl) ?_; simp only [List.take_succ_cons, List.take_zero, List.drop_succ_cons, List.drop_zero]; repeat (refine wpStill_step (fun K hK => ?_); go_simp; (try go_ints); (try simp only [↓IntWalk.iteOmega, true_and]); (with_reducible apply hK); clear hK K)); refine wpStill_nil ?_
              go_wp2_with fail
              refine (code_nil _).mono ?_
              rintro e w7 ⟨rfl, rfl⟩
              go_wp2_with fail
              go_meet
              exact ⟨_, Lib.hid ((N6.out.law y0 (hv ++ s')).drew 1), Lib.hid (SMX.out _ HFS.out), Lib.hid (DN0.out _)⟩
            · rw [g2] at M
              clear g2
              go_wp2_with fail
              refine M.mono ?_
              rintro e w6 ⟨rfl, hw, hk⟩
              have n6 := N4.out.wire hk hw
              have N6 := Lib.hid n6
              have cw := n6.way y0 hy0
              rw [← HHV.out] at cw
              have fw := n6.gb.free y0
              have A6 := hk.blk A4.out.1 hab
              have c1' := A6.cell 1 _ rfl
              have HS6 := Lib.hid (HS.out.same n6.bel)
              clear hw hk n6 c0 c1 M A6
              go_upto_region 33 with fail
              (refine still_tail 10 (by kernel_rfl) (by kernel_rfl) ?_; simp only [List.take_succ_cons, List.take_zero, List.drop_succ_cons, List.drop_zero]; repeat (refine wpStill_step (fun K hK => ?_); go_simp; (try go_ints); (try simp only [↓IntWalk.iteOmega, true_and]); (with_reducible apply hK); clear hK K)); refine wpStill_nil ?_
              go_wp2_with fail
              refine (code_nil _).mono ?_
              rintro e w7 ⟨rfl, rfl⟩
              go_wp2_with fail
              go_meet
              exact ⟨_, Lib.hid ((N6.out.law y0 (hv ++ s'.extract 0 lf)).drew 1), Lib.hid (SMX.out _ HFS.out), Lib.hid (DN0.out _)⟩
            -- END y0
          · by_cases k1 : kd = 1
            · as_aux_lemma =>
              -- BEGIN y1
              subst k1
              have M := take_yes N4.out.wd y0 hy0 n (by rw [← HHV.out]; exact hvs)
              rw [← HHV.out, ← HTN.out] at M
              have hfs : (hv.extract tn hv.size).size ≤ R := by rw [ByteArray.size_extract]; omega
              have HFS := Lib.hid hfs
              have htn' : (tn : Int) ≤ hv.size := by omega
              clear hfs c3 c4 hkd k0
              go_wp2_with fail
              refine M.mono ?_
              rintro e w6 ⟨rfl, hw, hk⟩
              have n6 := N4.out.wire hk hw
              have N6 := Lib.hid n6
              have cw := n6.way y0 hy0
              rw [← HHV.out] at cw
              have fw := n6.gb.free y0
              have A6 := hk.blk A4.out.1 hab
              have c1' := A6.cell 1 _ rfl
              clear hw hk n6 c0 c1 c2 M A6
              go_upto_region 39 with fail
              (refine still_tail 7 (by kernel_rfl) (by kernel_rfl) ?_; simp only [List.take_succ_cons, List.take_zero, List.drop_succ_cons, List.drop_zero]; repeat (refine wpStill_step (fun K hK => ?_); go_simp; (try go_ints); (try simp only [↓IntWalk.iteOmega, true_and]); (with_reducible apply hK); clear hK K)); refine wpStill_nil ?_
              go_wp2_with fail
              refine (code_nil _).mono ?_
              rintro e w7 ⟨rfl, rfl⟩
              go_wp2_with fail
              go_meet
              exact ⟨_, Lib.hid ((N6.out.law y0 (hv.extract tn hv.size)).drew 1), Lib.hid (SMX.out _ HFS.out), Lib.hid (DN0.out _)⟩
              -- END y1
            · by_cases k2 : kd = 2
              · by_cases hnr : 0 ≤ n ∧ n < hv.size
                · as_aux_lemma =>
                  -- BEGIN y2
                  subst k2
                  obtain ⟨n0, rfl⟩ := Int.eq_ofNat_of_zero_le hnr.1
                  have hn0 : n0 < hv.size := by omega
                  have M := bend_yes ad HSW.out N4.out.wd y0 hy0 n0 y hy (by rw [← HHV.out]; exact hn0) (by rw [← HHV.out]; exact hvs)
                  rw [← HHV.out] at M
                  have hn1 : (n0 : Int) < hv.size := by omega
                  have HFS := Lib.hid (show (bendS hv n0 y).size ≤ R by rw [bendS_size]; exact hvR)
                  clear c3 hkd k0 k1 hnr
                  go_wp2_with fail
                  refine M.mono ?_
                  rintro e w6 ⟨rfl, hw, hk⟩
                  have n6 := N4.out.wire hk hw
                  have N6 := Lib.hid n6
                  have cw := n6.way y0 hy0
                  rw [← HHV.out] at cw
                  have fw := n6.gb.free y0
                  have A6 := hk.blk A4.out.1 hab
                  have HA6 := Lib.hid A6
                  have c1' := A6.cell 1 _ rfl
                  have c2' := A6.cell 2 _ rfl
                  have c4' := A6.cell 4 _ rfl
                  clear hw hk n6 c0 c1 c2 c4 M A6
                  go_upto_region 47 with fail
                  have GB := Lib.hid (show Blk w6 gw' 9 (svs ls') from N6.out.gb)
                  have hgw : vblk (.slice (some ⟨gw', 0, none⟩) 2 2) = some gw' := by simp [vblk]
                  clear hgw
                  obtain ⟨c, hc⟩ : ∃ c : UInt8, c = UInt8.ofNat ((hv.data.toList.getD n0 0).toNat ^^^ y) := ⟨_, rfl⟩
                  have ex : (((hv[n0]'hn0).toNat : Nat) : Int) = (((hv.data.toList.getD n0 0).toNat : Nat) : Int) := by rw [by_index hv n0 hn0]
                  have ec : bits .xor .u8 (((hv[n0]'hn0).toNat : Nat) : Int) (y : Int) = ((c.toNat : Nat) : Int) := by rw [ex, hc]; exact (bend_byte hv n0 y hy).symm
                  have EC := Lib.hid ec
                  have HCC := Lib.hid hc
                  have FIN := Lib.hid (bend_parts hv n0 c hn0)
                  have e1 : IntKind.i64.wrap ((n0 : Int) + 1) = n0 + 1 := IntWalk.i64_in _ (by omega)
                  have hn2 : (n0 : Int) + 1 ≤ hv.size := by omega
                  have hn3 : (0 : Int) ≤ (n0 : Int) + 1 := by omega
                  have hn4 : ((n0 : Int) + 1).toNat = n0 + 1 := by omega
                  have hn5 : (n0 : Int) ≤ hv.size := by omega
                  clear ex ec hc c1' c2' c4'
                  (refine Pl.wp_region_plan (fun k => k = gw') [(true, 0), (true, 1), (true, 2), (true, 3), (true, 4), (true, 5), (true, 6), (true, 7), (true, 8), (true, 9), (true, 10), (true, 11), (true, 12), (true, 13), (true, 17), (true, 18), (true, 19), (true, 20), (true, 21), (false, 14), (false, 15), (false, 16), (false, 22), (true, 23), (false, 24)] (by kernel_rfl) (by kernel_rfl) ?_)
                  (refine Pl.plan_head (i := 0) rfl (fun K hK => ?_); refine Pl.plan_plain (.slice (some ⟨gw', 0, none⟩) 2 2) (by first | rfl | simp [Region.wanted, yielded]) (fun w' hw' => by go_simp) ?_; go_simp; (with_reducible apply hK); clear hK K)
                  (refine Pl.plan_head (i := 1) rfl (fun K hK => ?_); refine Pl.plan_plain (.pointer (some ⟨ab, 1, none⟩)) (by first | rfl | simp [Region.wanted, yielded]) (fun w' hw' => by go_simp) ?_; go_simp; (with_reducible apply hK); clear hK K)
                  (refine Pl.plan_head (i := 2) rfl (fun K hK => ?_); refine Pl.plan_plain (.int .i64 y0) (by first | rfl | simp [Region.wanted, yielded]) (fun w' hw' => by have h := (hw'.blk (show Blk w6.drew _ _ _ from HA6.out) (fun e => hag e.symm)).cell 1 _ rfl; go_simp; try simp [h]) ?_; go_simp; (with_reducible apply hK); clear hK K)
                  (refine Pl.plan_head (i := 3) rfl (fun K hK => ?_); refine Pl.plan_plain (.string hv) (by first | rfl | simp [Region.wanted, yielded]) (fun w' hw' => by go_simp) ?_; go_simp; (with_reducible apply hK); clear hK K)
                  (refine Pl.plan_head (i := 4) rfl (fun K hK => ?_); refine Pl.plan_plain (.pointer (some ⟨ab, 2, none⟩)) (by first | rfl | simp [Region.wanted, yielded]) (fun w' hw' => by go_simp) ?_; go_simp; (with_reducible apply hK); clear hK K)
                  (refine Pl.plan_head (i := 5) rfl (fun K hK => ?_); refine Pl.plan_plain (.int .i64 n0) (by first | rfl | simp [Region.wanted, yielded]) (fun w' hw' => by have h := (hw'.blk (show Blk w6.drew _ _ _ from HA6.out) (fun e => hag e.symm)).cell 2 _ rfl; go_simp; try simp [h]) ?_; go_simp; (with_reducible apply hK); clear hK K)
                  (refine Pl.plan_head (i := 6) rfl (fun K hK => ?_); refine Pl.plan_plain (.string (hv.extract 0 n0)) (by first | rfl | simp [Region.wanted, yielded]) (fun w' hw' => by go_simp) ?_; go_simp; (with_reducible apply hK); clear hK K)
                  (refine Pl.plan_head (i := 7) rfl (fun K hK => ?_); refine Pl.plan_plain (.string hv) (by first | rfl | simp [Region.wanted, yielded]) (fun w' hw' => by go_simp) ?_; go_simp; (with_reducible apply hK); clear hK K)
                  (refine Pl.plan_head (i := 8) rfl (fun K hK => ?_); refine Pl.plan_plain (.pointer (some ⟨ab, 2, none⟩)) (by first | rfl | simp [Region.wanted, yielded]) (fun w' hw' => by go_simp) ?_; go_simp; (with_reducible apply hK); clear hK K)
                  (refine Pl.plan_head (i := 9) rfl (fun K hK => ?_); refine Pl.plan_plain (.int .i64 n0) (by first | rfl | simp [Region.wanted, yielded]) (fun w' hw' => by have h := (hw'.blk (show Blk w6.drew _ _ _ from HA6.out) (fun e => hag e.symm)).cell 2 _ rfl; go_simp; try simp [h]) ?_; go_simp; (with_reducible apply hK); clear hK K)
                  (refine Pl.plan_head (i := 10) rfl (fun K hK => ?_); refine Pl.plan_plain (.int .u8 ((hv[n0]'hn0).toNat : Nat)) (by first | rfl | simp [Region.wanted, yielded]) (fun w' hw' => by go_simp) ?_; go_simp; (with_reducible apply hK); clear hK K)
                  (refine Pl.plan_head (i := 11) rfl (fun K hK => ?_); refine Pl.plan_plain (.pointer (some ⟨ab, 4, none⟩)) (by first | rfl | simp [Region.wanted, yielded]) (fun w' hw' => by go_simp) ?_; go_simp; (with_reducible apply hK); clear hK K)
                  (refine Pl.plan_head (i := 12) rfl (fun K hK => ?_); refine Pl.plan_plain (.int .u8 (y : Nat)) (by first | rfl | simp [Region.wanted, yielded]) (fun w' hw' => by have h := (hw'.blk (show Blk w6.drew _ _ _ from HA6.out) (fun e => hag e.symm)).cell 4 _ rfl; go_simp; try simp [h]) ?_; go_simp; (with_reducible apply hK); clear hK K)
                  (refine Pl.plan_head (i := 13) rfl (fun K hK => ?_); refine Pl.plan_plain (.int .u8 (c.toNat : Nat)) (by first | rfl | simp [Region.wanted, yielded]) (fun w' hw' => by have h := EC.out; go_simp; try simp [h]) ?_; go_simp; (with_reducible apply hK); clear hK K)
                  (refine Pl.plan_head (i := 17) rfl (fun K hK => ?_); refine Pl.plan_plain (.string hv) (by first | rfl | simp [Region.wanted, yielded]) (fun w' hw' => by go_simp) ?_; go_simp; (with_reducible apply hK); clear hK K)
                  (refine Pl.plan_head (i := 18) rfl (fun K hK => ?_); refine Pl.plan_plain (.pointer (some ⟨ab, 2, none⟩)) (by first | rfl | simp [Region.wanted, yielded]) (fun w' hw' => by go_simp) ?_; go_simp; (with_reducible apply hK); clear hK K)
                  (refine Pl.plan_head (i := 19) rfl (fun K hK => ?_); refine Pl.plan_plain (.int .i64 n0) (by first | rfl | simp [Region.wanted, yielded]) (fun w' hw' => by have h := (hw'.blk (show Blk w6.drew _ _ _ from HA6.out) (fun e => hag e.symm)).cell 2 _ rfl; go_simp; try simp [h]) ?_; go_simp; (with_reducible apply hK); clear hK K)
                  (refine Pl.plan_head (i := 20) rfl (fun K hK => ?_); refine Pl.plan_plain (.int .i64 ((n0 : Int) + 1)) (by first | rfl | simp [Region.wanted, yielded]) (fun w' hw' => by go_simp) ?_; go_simp; (with_reducible apply hK); clear hK K)
                  (refine Pl.plan_head (i := 21) rfl (fun K hK => ?_); refine Pl.plan_plain (.string (hv.extract (n0 + 1) hv.size)) (by first | rfl | simp [Region.wanted, yielded]) (fun w' hw' => by go_simp) ?_; go_simp; (with_reducible apply hK); clear hK K)
                  refine Pl.plan_sole (i := 14) rfl (fun w7 h7 Q7 hQ7 => ?_)
                  have B7 := Lib.hid (show Below w6.heap.size w6 w7 from (below_drewN (Below.refl _ _) 1).trans h7)
                  have K7 : Hid (Keeps (fun k => k = gw') w6.drew (w7.alloc (.cells #[.int .u8 (c.toNat : Nat)] 5))) := Lib.hid (((Keeps.refl _ _).rw h7).alloc _)
                  have S7 := Lib.hid (show Sg (w7.alloc (.cells #[.int .u8 (c.toNat : Nat)] 5)) 1 (.slice (some ⟨w7.heap.size, 0, none⟩) 1 1) 1 (byv [c]) from lit_by w7 5 c)
                  have B7' := Lib.hid (B7.out.alloc B7.out.size (.cells #[.int .u8 (c.toNat : Nat)] 5))
                  clear h7
                  go_wp2_with fail
                  refine hQ7 _ _ K7.out ?_
                  clear hQ7 Q7
                  refine Pl.plan_sole (i := 15) rfl (fun w8 h8 Q8 hQ8 => ?_)
                  have K8 := Lib.hid (K7.out.rw h8)
                  have B8 := Lib.hid (B7'.out.trans (h8.mono B7'.out.size))
                  have hcv : (convert 42 9 (.slice (some ⟨w7.heap.size, 0, none⟩) 1 1)).run Tryd.prog w8 = .ok (.string ⟨#[c]⟩) w8 := run_str (P := Tryd.prog) (e := 5) Tryd.underlying42 Tryd.underlying5 Tryd.underlying9 (S7.out.below h8)
                  clear h8 S7 B7 B7' K7
                  go_wp2_with fail
                  refine hQ8 _ _ K8.out ?_
                  clear hQ8 Q8 hcv
                  refine Pl.plan_sole (i := 16) rfl (fun w9 h9 Q9 hQ9 => ?_)
                  have K9 := Lib.hid (K8.out.rw h9)
                  have B9 := Lib.hid (B8.out.trans (h9.mono B8.out.size))
                  clear h9 K8 B8
                  go_wp2_with fail
                  refine hQ9 _ _ K9.out ?_
                  clear hQ9 Q9
                  refine Pl.plan_sole (i := 22) rfl (fun w10 h10 Q10 hQ10 => ?_)
                  have K10 := Lib.hid (K9.out.rw h10)
                  have B10 := Lib.hid (B9.out.trans (h10.mono B9.out.size))
                  clear h10 K9 B9
                  go_wp2_with fail
                  refine hQ10 _ _ K10.out ?_
                  clear hQ10 Q10
                  (refine Pl.plan_head (i := 23) rfl (fun K hK => ?_); refine Pl.plan_plain (.pointer (some ⟨gw', y0, none⟩)) (by first | rfl | simp [Region.wanted, yielded]) (fun w' hw' => by go_simp) ?_; go_simp; (with_reducible apply hK); clear hK K)
                  refine Pl.plan_sole (i := 24) rfl (fun w11 h11 Q11 hQ11 => ?_)
                  have B11 := B10.out.trans (h11.mono B10.out.size)
                  have n11 := N6.out.below B11
                  have cw11 := n11.way y0 hy0
                  have fw11 := n11.gb.free y0
                  have N11 := Lib.hid (n11.law y0 (hv.extract 0 n0 ++ ⟨#[c]⟩ ++ hv.extract (n0 + 1) hv.size))
                  have K11 := Lib.hid ((K10.out.rw h11).set gw' y0 (.string (hv.extract 0 n0 ++ ⟨#[c]⟩ ++ hv.extract (n0 + 1) hv.size)) (fun _ => rfl))
                  clear h11 B11 n11 K10 B10
                  go_wp2_with fail
                  refine hQ11 _ _ K11.out ?_
                  clear hQ11 Q11
                  generalize World.setCell w11 _ _ = w12 at *
                  refine Pl.plan_nil (fun w13 h13 => ?_)
                  have N13 := Lib.hid (N11.out.below h13)
                  clear h13 K11 cw11 fw11
                  go_wp2_with fail
                  refine (code_nil _).mono ?_
                  rintro e w14 ⟨rfl, rfl⟩
                  go_wp2_with fail
                  go_meet
                  have n13 := N13.out
                  rw [FIN.out, HCC.out] at n13
                  exact ⟨_, Lib.hid n13, Lib.hid (SMX.out _ HFS.out), Lib.hid (DN0.out _)⟩
                  -- END y2
                · as_aux_lemma =>
                  -- BEGIN y2o
                  subst k2
                  have hno : n < 0 ∨ ((ls'.getD y0 emp0).size : Int) ≤ n := by rw [← HHV.out]; omega
                  have M := bend_out ad HSW.out N4.out.wd y0 hy0 n y hno
                  have CO := code_any ad _ HSW.out 8 (by omega)
                  generalize errV ad 8 = ev at *
                  have hnc : (n < 0) ∨ (0 ≤ n ∧ (hv.size : Int) ≤ n) := by omega
                  clear hno c3 hkd k0 k1 hnr
                  rcases hnc with h1 | ⟨h1, h2⟩
                  all_goals
                    go_wp2_with fail
                    refine M.mono ?_
                    rintro e w6 ⟨rfl, rfl⟩
                    go_wp2_with fail
                    refine CO.mono ?_
                    rintro e w6 ⟨rfl, rfl⟩
                    go_wp2_with fail
                    go_meet
                    exact ⟨ls', N4, SM4, DN4⟩
                  -- END y2o
              · by_cases k3 : kd = 3
                · as_aux_lemma =>
                  -- BEGIN y3
                  subst k3
                  have M := lose_yes N4.out.wd y0 hy0 n (by rw [← HHV.out]; exact hvs)
                  rw [← HHV.out, ← HTN.out] at M
                  have hfs : (hv.extract tn hv.size).size ≤ R := by rw [ByteArray.size_extract]; omega
                  have HFS := Lib.hid hfs
                  have htn' : (tn : Int) ≤ hv.size := by omega
                  clear hfs c3 c4 hkd k0 k1 k2
                  go_wp2_with fail
                  refine M.mono ?_
                  rintro e w6 ⟨rfl, hw, hk⟩
                  have n6 := N4.out.wire hk hw
                  have N6 := Lib.hid n6
                  have cw := n6.way y0 hy0
                  rw [← HHV.out] at cw
                  have fw := n6.gb.free y0
                  have A6 := hk.blk A4.out.1 hab
                  have c1' := A6.cell 1 _ rfl
                  clear hw hk n6 c0 c1 c2 M A6
                  go_upto_region 53 with fail
                  (refine still_tail 7 (by kernel_rfl) (by kernel_rfl) ?_; simp only [List.take_succ_cons, List.take_zero, List.drop_succ_cons, List.drop_zero]; repeat (refine wpStill_step (fun K hK => ?_); go_simp; (try go_ints); (try simp only [↓IntWalk.iteOmega, true_and]); (with_reducible apply hK); clear hK K)); refine wpStill_nil ?_
                  go_wp2_with fail
                  refine (code_nil _).mono ?_
                  rintro e w7 ⟨rfl, rfl⟩
                  go_wp2_with fail
                  go_meet
                  exact ⟨_, Lib.hid ((N6.out.law y0 (hv.extract tn hv.size)).drew 1), Lib.hid (SMX.out _ HFS.out), Lib.hid (DN0.out _)⟩
                  -- END y3
                · as_aux_lemma =>
                  -- BEGIN y4
                  have b0 : (kd == 0) = false := by simpa using k0
                  have b1 : (kd == 1) = false := by simpa using k1
                  have b2 : (kd == 2) = false := by simpa using k2
                  have b3 : (kd == 3) = false := by simpa using k3
                  clear c1 c2 c3 c4 k0 k1 k2 k3 hkd
                  go_wp2_with fail
                  go_meet
                  exact ⟨ls', N4, SM4, DN4⟩
                  -- END y4
      case rest => as_aux_lemma =>
      rename World => w6
      obtain ⟨ls2, N6, SM6, DN6⟩ := hcut
      -- BEGIN lp
      clear N4 A4 SM4 DN4 HW HV HB HTN c0 c1 c2 c3 c4 hvs
      go_wp2_with fail
      go_loopw [244] (fun v wr => ∃ k : Nat, v = .int .i64 k ∧ k ≤ 2 ∧ Hid (NP w wr b gw' ls2 ls2 R d')) (fun v _ => 2 - (intOf v).toNat)
      case atStart => exact ⟨0, rfl, by omega, N6⟩
      case round => as_aux_lemma =>
        clear N6
        obtain ⟨k, rfl, hk, N⟩ := hrel
        by_cases hk2 : k < 2
        · obtain ⟨x, hx⟩ : ∃ x, x = ls2.getD k emp0 := ⟨_, rfl⟩
          have hxR : x.size ≤ R := by rw [hx]; exact SM6.out k hk2
          obtain ⟨lf, hlf⟩ : ∃ lf, lf = R - x.size := ⟨_, rfl⟩
          obtain ⟨lg, hlg⟩ : ∃ lg, lg = if d' then 0 else lf := ⟨_, rfl⟩
          have LEN : ∀ wx, Keeps (fun _ => False) wr.drew wx → Calls Tryd.prog 10 #[.pointer (some ⟨b, 0, none⟩), .int .i64 k] wx fun e w' => e = .returned (.int .i64 (x.size : Nat)) ∧ Rw wx w' := fun wx hw => by
            have hb : Below wr.heap.size wr wx := (below_drewN (Below.refl _ _) 1).trans (hw.below (Nat.le_refl _) (fun _ _ h => h))
            have n := N.out.below hb
            cases d'
            · refine (len_yes n.wd k hk2).mono ?_
              rintro e w' ⟨rfl, rfl⟩
              exact ⟨by rw [hx], Rw.refl _⟩
            · have hs := HS.out.same n.bel
              refine (len_no ad hs n.wd k (by unfold mayC; rw [if_neg (by omega)]; decide)).mono ?_
              rintro e w' ⟨rfl, rfl⟩
              refine ⟨?_, Rw.refl _⟩
              have : x.size = 0 := by
                rw [hx, DN6.out rfl]
                match k, hk2 with
                | 0, _ => rfl
                | 1, _ => rfl
              rw [this]; rfl
          have ROOM : ∀ wx, Keeps (fun _ => False) wr.drew wx → Calls Tryd.prog 15 #[.pointer (some ⟨b, 0, none⟩), .int .i64 k] wx fun e w' => e = .returned (.int .i64 (lg : Nat)) ∧ Rw wx w' := fun wx hw => by
            have hb : Below wr.heap.size wr wx := (below_drewN (Below.refl _ _) 1).trans (hw.below (Nat.le_refl _) (fun _ _ h => h))
            have n := N.out.below hb
            cases d'
            · refine (room_yes n.wd k hk2 hR2 (SM6.out k hk2)).mono ?_
              rintro e w' ⟨rfl, m, rfl⟩
              exact ⟨by rw [hlg, hlf, hx]; rfl, below_drewN (Below.refl _ _) m⟩
            · have hs := HS.out.same n.bel
              refine (room_no ad hs n.wd k (by unfold mayC; rw [if_neg (by omega)]; decide)).mono ?_
              rintro e w' ⟨rfl, rfl⟩
              exact ⟨by rw [hlg]; rfl, Rw.refl _⟩
          have UP : ∀ wx, Keeps (fun _ => False) wr.drew wx → Calls Tryd.prog 16 #[.pointer (some ⟨b, 0, none⟩)] wx fun e w' => e = .returned (.bool !d') ∧ Rw wx w' := fun wx hw => by
            have hb : Below wr.heap.size wr wx := (below_drewN (Below.refl _ _) 1).trans (hw.below (Nat.le_refl _) (fun _ _ h => h))
            refine (up_any (N.out.below hb).wd).mono ?_
            rintro e w' ⟨rfl, rfl⟩
            exact ⟨rfl, Rw.refl _⟩
          have cw := N.out.way k hk2
          rw [← hx] at cw
          have e1 : (R : Int) - (x.size : Int) = (lf : Int) := by omega
          have hk3 : (k : Int) < 2 := by omega
          have LEN' := Lib.hid LEN
          have ROOM' := Lib.hid ROOM
          have UP' := Lib.hid UP
          have HLG := Lib.hid hlg
          clear LEN ROOM UP hx hlf hlg
          go_upto_if 255 with fail
          go_cut [23] (fun v23 wx => v23 = .int .i64 lg ∧ wr = wx)
          case first =>
            cases d'
            · go_wp2_with fail
              go_meet
              exact ⟨by rw [HLG.out]; rfl, rfl⟩
            · go_wp2_with fail
              go_meet
              exact ⟨by rw [HLG.out]; rfl, rfl⟩
          case rest =>
          obtain ⟨rfl, rfl⟩ := hcut
          go_upto_region 62 with fail
          (refine Pl.wp_region_plan (fun _ => False) [(true, 0), (true, 1), (true, 2), (true, 3), (true, 4), (true, 5), (true, 6), (true, 7), (true, 8), (true, 9), (true, 10), (true, 11), (true, 12), (true, 13), (true, 14), (true, 15), (true, 16), (true, 17), (true, 18), (true, 19), (true, 20), (true, 21)] (by kernel_rfl) (by kernel_rfl) ?_)
          (refine Pl.plan_head (i := 0) rfl (fun K hK => ?_); refine Pl.plan_plain (.pointer (some ⟨b, 0, none⟩)) (by first | rfl | simp [Region.wanted, yielded]) (fun w' hw' => by go_simp) ?_; go_simp; (with_reducible apply hK); clear hK K)
          (refine Pl.plan_head (i := 1) rfl (fun K hK => ?_); refine Pl.plan_plain (.int .i64 k) (by first | rfl | simp [Region.wanted, yielded]) (fun w' hw' => by go_simp) ?_; go_simp; (with_reducible apply hK); clear hK K)
          (refine Pl.plan_head (i := 2) rfl (fun K hK => ?_); refine Pl.plan_call (.int .i64 (x.size : Nat)) 10 #[.pointer (some ⟨b, 0, none⟩), .int .i64 k] (by first | rfl | simp [Region.wanted, yielded]) (fun w' => by go_simp) (fun w' hw' => LEN'.out w' hw') ?_; go_simp; (with_reducible apply hK); clear hK K)
          (refine Pl.plan_head (i := 3) rfl (fun K hK => ?_); refine Pl.plan_plain (.slice (some ⟨gw', 0, none⟩) 2 2) (by first | rfl | simp [Region.wanted, yielded]) (fun w' hw' => by go_simp) ?_; go_simp; (with_reducible apply hK); clear hK K)
          (refine Pl.plan_head (i := 4) rfl (fun K hK => ?_); refine Pl.plan_plain (.int .i64 k) (by first | rfl | simp [Region.wanted, yielded]) (fun w' hw' => by go_simp) ?_; go_simp; (with_reducible apply hK); clear hK K)
          (refine Pl.plan_head (i := 5) rfl (fun K hK => ?_); refine Pl.plan_plain (.pointer (some ⟨gw', k, none⟩)) (by first | rfl | simp [Region.wanted, yielded]) (fun w' hw' => by go_simp) ?_; go_simp; (with_reducible apply hK); clear hK K)
          (refine Pl.plan_head (i := 6) rfl (fun K hK => ?_); refine Pl.plan_plain (.string x) (by first | rfl | simp [Region.wanted, yielded]) (fun w' hw' => by have h := hw'.cell (p := ⟨gw', k, none⟩) (show wr.drew.cell? _ = _ from cw) (fun h => h); go_simp; try simp [h]) ?_; go_simp; (with_reducible apply hK); clear hK K)
          (refine Pl.plan_head (i := 7) rfl (fun K hK => ?_); refine Pl.plan_plain (.int .i64 (x.size : Nat)) (by first | rfl | simp [Region.wanted, yielded]) (fun w' hw' => by go_simp) ?_; go_simp; (with_reducible apply hK); clear hK K)
          (refine Pl.plan_head (i := 8) rfl (fun K hK => ?_); refine Pl.plan_plain (.bool false) (by first | rfl | simp [Region.wanted, yielded]) (fun w' hw' => by go_simp) ?_; go_simp; (with_reducible apply hK); clear hK K)
          (refine Pl.plan_head (i := 9) rfl (fun K hK => ?_); refine Pl.plan_plain (.bool false) (by first | rfl | simp [Region.wanted, yielded]) (fun w' hw' => by go_simp) ?_; go_simp; (with_reducible apply hK); clear hK K)
          (refine Pl.plan_head (i := 10) rfl (fun K hK => ?_); refine Pl.plan_plain (.pointer (some ⟨b, 0, none⟩)) (by first | rfl | simp [Region.wanted, yielded]) (fun w' hw' => by go_simp) ?_; go_simp; (with_reducible apply hK); clear hK K)
          (refine Pl.plan_head (i := 11) rfl (fun K hK => ?_); refine Pl.plan_plain (.int .i64 k) (by first | rfl | simp [Region.wanted, yielded]) (fun w' hw' => by go_simp) ?_; go_simp; (with_reducible apply hK); clear hK K)
          (refine Pl.plan_head (i := 12) rfl (fun K hK => ?_); refine Pl.plan_call (.int .i64 (lg : Nat)) 15 #[.pointer (some ⟨b, 0, none⟩), .int .i64 k] (by first | rfl | simp [Region.wanted, yielded]) (fun w' => by go_simp) (fun w' hw' => ROOM'.out w' hw') ?_; go_simp; (with_reducible apply hK); clear hK K)
          (refine Pl.plan_head (i := 13) rfl (fun K hK => ?_); refine Pl.plan_plain (.int .i64 lg) (by first | rfl | simp [Region.wanted, yielded]) (fun w' hw' => by go_simp) ?_; go_simp; (with_reducible apply hK); clear hK K)
          (refine Pl.plan_head (i := 14) rfl (fun K hK => ?_); refine Pl.plan_plain (.bool false) (by first | rfl | simp [Region.wanted, yielded]) (fun w' hw' => by go_simp) ?_; go_simp; (with_reducible apply hK); clear hK K)
          (refine Pl.plan_head (i := 15) rfl (fun K hK => ?_); refine Pl.plan_plain (.bool false) (by first | rfl | simp [Region.wanted, yielded]) (fun w' hw' => by go_simp) ?_; go_simp; (with_reducible apply hK); clear hK K)
          (refine Pl.plan_head (i := 16) rfl (fun K hK => ?_); refine Pl.plan_plain (.bool false) (by first | rfl | simp [Region.wanted, yielded]) (fun w' hw' => by go_simp) ?_; go_simp; (with_reducible apply hK); clear hK K)
          (refine Pl.plan_head (i := 17) rfl (fun K hK => ?_); refine Pl.plan_plain (.pointer (some ⟨b, 0, none⟩)) (by first | rfl | simp [Region.wanted, yielded]) (fun w' hw' => by go_simp) ?_; go_simp; (with_reducible apply hK); clear hK K)
          (refine Pl.plan_head (i := 18) rfl (fun K hK => ?_); refine Pl.plan_call (.bool (!d')) 16 #[.pointer (some ⟨b, 0, none⟩)] (by first | rfl | simp [Region.wanted, yielded]) (fun w' => by go_simp) (fun w' hw' => UP'.out w' hw') ?_; go_simp; (with_reducible apply hK); clear hK K)
          (refine Pl.plan_head (i := 19) rfl (fun K hK => ?_); refine Pl.plan_plain (.bool (!d')) (by first | rfl | simp [Region.wanted, yielded]) (fun w' hw' => by go_simp) ?_; go_simp; (with_reducible apply hK); clear hK K)
          (refine Pl.plan_head (i := 20) rfl (fun K hK => ?_); refine Pl.plan_plain (.bool false) (by first | rfl | simp [Region.wanted, yielded]) (fun w' hw' => by go_simp) ?_; go_simp; (with_reducible apply hK); clear hK K)
          (refine Pl.plan_head (i := 21) rfl (fun K hK => ?_); refine Pl.plan_plain (.bool false) (by first | rfl | simp [Region.wanted, yielded]) (fun w' hw' => by go_simp) ?_; go_simp; (with_reducible apply hK); clear hK K)
          refine Pl.plan_nil (fun w8 h8 => ?_)
          have N8 := Lib.hid (N.out.below ((below_drewN (Below.refl _ _) 1).trans h8))
          clear h8 cw
          go_wp2_with fail
          go_roundw
          case rel => exact ⟨k + 1, by go_num, by omega, N8⟩
          case measure => simp [intOf]; omega
        · obtain rfl : k = 2 := by omega
          go_wp2_with fail
          go_roundw
          case rel => exact ⟨i + 1, gw', ls2, d', rfl, rfl, by go_num, by omega, N, SM6, DN6⟩
          case measure => simp [intOf]; omega
      -- END lp
    · as_aux_lemma =>
      -- BEGIN fin
      have HSW := Lib.hid (HS.out.same N.out.bel)
      have L2 := len_no ad HSW.out N.out.wd 2 (by unfold mayC; rw [if_pos (.inr (by decide))]; decide)
      have R2 := room_no ad HSW.out N.out.wd (-1) (by unfold mayC; rw [if_pos (.inl (by decide))]; decide)
      have hb := N.out.bel
      clear SM DN N
      rcases Nat.lt_or_ge i len with hq | hq
      all_goals
        go_wp2_with fail
        refine L2.mono ?_
        rintro e w7 ⟨rfl, rfl⟩
        go_wp2_with fail
        refine R2.mono ?_
        rintro e w7 ⟨rfl, rfl⟩
        go_wp2_with fail
        go_ret
        exact ⟨rfl, hb⟩
      -- END fin
end Go.Proofs.YtbllecnhhcfcfaaDoor
