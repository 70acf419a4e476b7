/-
hello: Feed.
-/
import Derived.Test.YtcopmaceklgfnaaDoorHelV
namespace Go.Proofs.YtcopmaceklgfnaaDoor
open Go.RowKit HelP
set_option maxRecDepth 100000
theorem bs_app (a b : List UInt8) : bs a ++ bs b = bs (a ++ b) := by
  apply ByteArray.ext
  simp [bs, ByteArray.data_append]
/-- what a reader is in -/
def HSt (ad : Nat → Addr) (w : World) (h : Nat) : St → Prop
  | .wait p m => HB w h p m [] .nilIface ∧ m ≤ 1000 ∧ p.length ≤ 254
  | .done q => (∃ p m, HB w h p m q .nilIface) ∧ q ≠ []
  | .err c => ∃ p m, HB w h p m [] (errv ad (c - 1))
theorem HSt.below {ad : Nat → Addr} {w w' : World} {h : Nat} : ∀ {st : St}, HSt ad w h st → Below w.heap.size w w' → HSt ad w' h st
  | .wait _ _, hh, hb => ⟨Blk.below hh.1 hb (Blk.lt hh.1), hh.2⟩
  | .done _, ⟨⟨p, m, hh⟩, hq⟩, hb => ⟨⟨p, m, Blk.below hh hb (Blk.lt hh)⟩, hq⟩
  | .err _, ⟨p, m, hh⟩, hb => ⟨p, m, Blk.below hh hb (Blk.lt hh)⟩
theorem lineSt_wait {l p : List UInt8} {m m' : Nat} (h : lineSt l m = .wait p m') : p = [] ∧ m' ≤ m := by
  unfold lineSt at h
  split at h
  · cases h
  · split at h
    · split at h <;> cases h
    · split at h
      · cases h
      · cases h
        exact ⟨rfl, by omega⟩
theorem lineSt_done {l q : List UInt8} {m : Nat} (h : lineSt l m = .done q) : q ≠ [] := by
  have := fit_line l m
  rw [h] at this
  exact this
def strLen : Value → Nat
  | .string s => s.size
  | _ => 0
def errBit (w : World) (h : Nat) : Nat :=
  match w.cell? ⟨h, 3, none⟩ with
  | some .nilIface => 1
  | _ => 0
theorem errBit_le (w : World) (h : Nat) : errBit w h ≤ 1 := by unfold errBit; split <;> omega
theorem trim_ok (s : ByteArray) (hs : s.size ≤ 5000) (w : World) : Calls Tryd.prog 19 #[.string s, .string { data := #[13] }] w fun e w' => e = .returned (.string (bs (trimR s.data.toList))) ∧ w = w' :=
  (Sh.strings_TrimSuffix s { data := #[13] } w (by omega)).mono (by rintro e w' ⟨rfl, rfl⟩; exact ⟨rfl, rfl⟩)
theorem upTo_le (c : UInt8) (l : List UInt8) : (upTo c l).length ≤ l.length := by
  have h := congrArg List.length (upTo_take c l)
  rw [List.length_take] at h
  omega
theorem trimR_le (l : List UInt8) : (trimR l).length ≤ l.length := by
  unfold trimR
  split
  · rw [List.length_take]; omega
  · exact Nat.le_refl _
set_option maxHeartbeats 4000000 in
theorem feed_ok (ad : Nat → Addr) (h : Nat) (st : St) (s : ByteArray) (hs : s.size ≤ 2000) (w : World) (hH : HSt ad w h st) (hS : ES w ad) (hh : ∀ g ∈ esGs, g ≠ h) :
    Calls Tryd.prog 8 #[.pointer (some ⟨h, 0, none⟩), .string s] w fun e w' => e = .returned (.tuple #[.string (bs (run s.data.toList st).2), resL ad (run s.data.toList st).1]) ∧ HSt ad w' h (run s.data.toList st).1 ∧ Keeps (fun k => k = h) w w' := by
  have HS := Lib.hid hS
  have H0 : Hid (∃ t, HSt ad w h t ∧ run s.data.toList t = run s.data.toList st) := Lib.hid ⟨st, hH, rfl⟩
  obtain ⟨R, hR⟩ : ∃ R, R = run s.data.toList st := ⟨_, rfl⟩
  rw [← hR] at H0 ⊢
  clear hS hH hR
  rw [show (Value.string s) = .string (bs s.data.toList) by rw [bs_of]]
  obtain ⟨l0, hl0⟩ : ∃ l, l = s.data.toList := ⟨_, rfl⟩
  have hl2 : l0.length ≤ 2000 := by rw [hl0, Array.length_toList]; exact hs
  rw [← hl0] at H0 ⊢
  clear hs hl0
  go_enter Tryd.func8, Tryd.ntmps8
  go_wp2_with fail
  go_loopw [1] (fun v wx => ∃ l : List UInt8, v = .string (bs l) ∧ l.length ≤ 2000 ∧ Hid (∃ t, HSt ad wx h t ∧ run l t = R) ∧ Hid (Keeps (fun k => k = h) w wx)) (fun v wx => 2 * strLen v + errBit wx h)
  case atStart => exact ⟨l0, rfl, hl2, H0, Lib.hid (Keeps.refl _ _)⟩
  case round =>
    obtain ⟨l, rfl, hl, ht, hk⟩ := hrel
    clear H0
    obtain ⟨t, htt, hrun⟩ := ht.out
    clear ht
    cases t with
    | done q =>
      obtain ⟨⟨p, m, hb⟩, hq⟩ := htt
      have hd := done_ok h p q m .nilIface wr hb
      have hqe : (!q.isEmpty) = true := by cases q with | nil => exact absurd rfl hq | cons a b => rfl
      rw [hqe] at hd
      have HD := Lib.hid hd
      have c3 := hb.cell 3 _ rfl
      have HBB := Lib.hid (And.intro hb hq)
      have hrr : R = (.done q, l) := by rw [← hrun, run_done]
      have HRR := Lib.hid hrr
      clear hd hqe hb hq hrun hrr
      go_wp2_with (go_at_call 9; refine HD.out.mono ?_; rintro e w' ⟨rfl, rfl⟩)
      go_ret2
      rw [HRR.out]
      exact ⟨rfl, ⟨⟨p, m, HBB.out.1⟩, HBB.out.2⟩, hk.out⟩
    | err c =>
      obtain ⟨p, m, hb⟩ := htt
      have hd := done_ok h p [] m (errv ad (c - 1)) wr hb
      have HD := Lib.hid hd
      have c3 := hb.cell 3 _ rfl
      have HBB := Lib.hid hb
      have hrr : R = (.err c, []) := by rw [← hrun, run_err]
      have HRR := Lib.hid hrr
      clear hd hb hrun hrr
      go_upto_region 11 with (go_at_call 9; refine HD.out.mono ?_; rintro e w' ⟨rfl, rfl⟩)
      go_region
      go_wp2_with fail
      go_ret2
      rw [HRR.out]
      exact ⟨rfl, ⟨p, m, Blk.below HBB.out (below_drewN (Below.refl _ _) 1) (Blk.lt HBB.out)⟩, hk.out.drewN 1⟩
    | wait p m =>
      obtain ⟨hb, hm, hp⟩ := htt
      have hd := done_ok h p [] m .nilIface wr hb
      have HD := Lib.hid hd
      have hct := cut1_ok (bs l) 10 (by rw [bs_size]; omega) wr
      rw [bs_l] at hct
      have HCT := Lib.hid hct
      have hrc := run_cut m l p hp
      rw [hrun] at hrc
      have HRC := Lib.hid hrc
      have hul := upTo_le 10 l
      obtain ⟨B, hB⟩ : ∃ B, B = (if (10 : UInt8) ∈ l then l.drop ((upTo 10 l).length + 1) else []) := ⟨_, rfl⟩
      obtain ⟨D, hD⟩ : ∃ D, D = decide ((10 : UInt8) ∈ l) := ⟨_, rfl⟩
      rw [← hB, ← hD] at HCT
      have HBD := Lib.hid (And.intro hB hD)
      have hz1 := bs_size p
      have hz2 := bs_size (upTo 10 l)
      have c3 := hb.cell 3 _ rfl
      have HW0 := Lib.hid hb
      have HEB : Hid (errBit wr h = 1) := Lib.hid (by unfold errBit; rw [c3])
      clear hd hct hrc hrun hB hD hb
      go_upto_region 3 with (first | (go_at_call 9; refine HD.out.mono ?_; rintro e w' ⟨rfl, rfl⟩) | (go_at_call 17; refine HCT.out.mono ?_; rintro e w2 ⟨rfl, hb2⟩))
      have HH2 := Lib.hid (show HB w2 h p m [] .nilIface from Blk.below HW0.out hb2 (Blk.lt HW0.out))
      have HK2 := Lib.hid (hk.out.trans (Keeps.of_below (F := fun k => k = h) hb2) (fun _ _ e => e))
      have c0 := HH2.out.cell 0 _ rfl
      have f0 := HH2.out.free 0
      have HH3 := Lib.hid (show HB (w2.setCell ⟨h, 0, none⟩ (.string (bs p ++ bs (upTo 10 l)))) h (p ++ upTo 10 l) m [] .nilIface by
        have e := HH2.out.set 0 (.string (bs p ++ bs (upTo 10 l)))
        unfold HB
        rw [← bs_app]
        exact e)
      have HK3 := Lib.hid (HK2.out.set h 0 (.string (bs p ++ bs (upTo 10 l))) (fun _ => rfl))
      clear hb2 hk HD HCT c3 HW0
      rw [bs_app] at HH3 HK3
      go_upto_region 6 with fail
      rw [bs_app]
      obtain ⟨P2, hP2⟩ : ∃ P2, P2 = p ++ upTo 10 l := ⟨_, rfl⟩
      have hl2 : P2.length = p.length + (upTo 10 l).length := by rw [hP2, List.length_append]
      rw [← hP2] at HH3 HK3 HRC ⊢
      have HP2 := Lib.hid hP2
      clear hP2 c0 f0 HH2 HK2 hz1 hz2
      generalize World.setCell w2 _ _ = w3 at *
      have c0' := HH3.out.cell 0 _ rfl
      have c3' := HH3.out.cell 3 _ rfl
      have f3' := HH3.out.free 3
      have hz3 := bs_size P2
      by_cases hbig : 254 < P2.length
      · have hrr := HRC.out
        rw [if_pos hbig] at hrr
        have HRR := Lib.hid hrr
        have e3 : w3.cell? ⟨0, 0, none⟩ = some (errv ad 3) := HK3.out.cell HS.out.c3 (hh _ (by decide))
        have HH4 := Lib.hid (HH3.out.set 3 (errv ad 3))
        have HK4 := Lib.hid (HK3.out.set h 3 (errv ad 3) (fun _ => rfl))
        have HEB2 : Hid (errBit (w3.setCell ⟨h, 3, none⟩ (errv ad 3)) h = 0) := Lib.hid (by
          unfold errBit
          rw [HH4.out.cell 3 _ rfl])
        clear hrr HH3 HK3
        go_wp2_with fail
        go_roundw
        case rel => exact ⟨l, rfl, hl, Lib.hid ⟨.err 4, ⟨P2, m, HH4.out⟩, by rw [run_err, HRR.out]⟩, HK4⟩
        case measure => rw [HEB.out, HEB2.out]; omega
      · have hrr := HRC.out
        rw [if_neg hbig] at hrr
        cases D with
        | false =>
          have h10 : (10 : UInt8) ∉ l := of_decide_eq_false HBD.out.2.symm
          have hw : R = (.wait P2 m, []) := by rw [hrr, if_neg h10, HP2.out, upTo_not h10]
          have HRR := Lib.hid hw
          have hpl : P2.length ≤ 254 := by omega
          clear hrr h10 hw
          go_wp2_with fail
          go_ret2
          rw [HRR.out]
          exact ⟨rfl, ⟨HH3.out, hm, hpl⟩, HK3.out⟩
        | true =>
         have h10 : (10 : UInt8) ∈ l := of_decide_eq_true HBD.out.2.symm
         rw [if_pos h10] at hrr
         have hBd : B = l.drop ((upTo 10 l).length + 1) := by rw [HBD.out.1, if_pos h10]
         have hBl : B.length + 1 ≤ l.length := by
           have e := congrArg List.length (upTo_mem h10)
           rw [List.length_append, List.length_cons, ← hBd] at e
           omega
         rw [← hBd] at hrr
         have HRR := Lib.hid hrr
         have htr := trim_ok (bs P2) (by rw [bs_size]; omega) w3
         rw [bs_l] at htr
         have HTR := Lib.hid htr
         have hln := line_ok ad h P2 m hm (bs (trimR P2)) (by rw [bs_size]; have := trimR_le P2; omega) w3 HH3.out (HS.out.keeps HK3.out hh)
         rw [bs_l] at hln
         clear hrr h10 hBd htr c3' f3'
         cases ht' : lineSt (trimR P2) m with
        | wait p' m' =>
          rw [ht'] at hln
          simp only [resL, moreL, peerL] at hln
          have HLN := Lib.hid hln
          have HT := Lib.hid ht'
          have hpw := lineSt_wait ht'
          have hpe := hpw.1
          subst hpe
          have hm' : m' ≤ 1000 := by omega
          clear hln ht'
          go_upto_region 5 with (first | (go_at_call 19; refine HTR.out.mono ?_; rintro e w' ⟨rfl, rfl⟩) | (go_at_call 18; refine HLN.out.mono ?_; rintro e w4 ⟨rfl, hb4, hk4⟩; have g3 := Lib.hid (Blk.cell hb4 3 _ rfl); have g3' := Lib.hid (Blk.free hb4 3); have d3 := g3.out; have d3' := g3'.out))
          have HH5 := Lib.hid (hb4.set 3 (.nilIface))
          have HK5 := Lib.hid ((HK3.out.trans hk4 (fun _ _ e => e)).set h 3 (.nilIface) (fun _ => rfl))
          clear g3 g3' d3 d3' hb4 hk4 c0' HH3 HK3 HLN HTR
          generalize World.setCell w4 _ _ = w5 at *
          have e0 := HH5.out.cell 0 _ rfl
          have e0' := HH5.out.free 0
          have HH6 := Lib.hid (HH5.out.set 0 (.string (bs [])))
          have HK6 := Lib.hid (HK5.out.set h 0 (.string (bs [])) (fun _ => rfl))
          clear HH5 HK5
          go_wp2_with fail
          go_roundw
          case rel => exact ⟨B, rfl, by omega, Lib.hid ⟨.wait [] m', ⟨HH6.out, hm', Nat.zero_le _⟩, by rw [HRR.out, HT.out]⟩, HK6⟩
          case measure =>
            simp only [strLen, bs_size]
            refine Nat.lt_of_le_of_lt (Nat.add_le_add_left (errBit_le _ h) _) ?_
            omega
        | done q =>
          rw [ht'] at hln
          simp only [resL, moreL, peerL] at hln
          have HLN := Lib.hid hln
          have HT := Lib.hid ht'
          have hqn := lineSt_done ht'
          have HQN := Lib.hid hqn
          clear hln ht'
          go_upto_region 5 with (first | (go_at_call 19; refine HTR.out.mono ?_; rintro e w' ⟨rfl, rfl⟩) | (go_at_call 18; refine HLN.out.mono ?_; rintro e w4 ⟨rfl, hb4, hk4⟩; have g3 := Lib.hid (Blk.cell hb4 3 _ rfl); have g3' := Lib.hid (Blk.free hb4 3); have d3 := g3.out; have d3' := g3'.out))
          have HH5 := Lib.hid (hb4.set 3 (.nilIface))
          have HK5 := Lib.hid ((HK3.out.trans hk4 (fun _ _ e => e)).set h 3 (.nilIface) (fun _ => rfl))
          clear g3 g3' d3 d3' hb4 hk4 c0' HH3 HK3 HLN HTR
          generalize World.setCell w4 _ _ = w5 at *
          have e0 := HH5.out.cell 0 _ rfl
          have e0' := HH5.out.free 0
          have HH6 := Lib.hid (HH5.out.set 0 (.string (bs [])))
          have HK6 := Lib.hid (HK5.out.set h 0 (.string (bs [])) (fun _ => rfl))
          clear HH5 HK5
          go_wp2_with fail
          go_roundw
          case rel => exact ⟨B, rfl, by omega, Lib.hid ⟨.done q, ⟨⟨[], m, HH6.out⟩, HQN.out⟩, by rw [HRR.out, HT.out]⟩, HK6⟩
          case measure =>
            simp only [strLen, bs_size]
            refine Nat.lt_of_le_of_lt (Nat.add_le_add_left (errBit_le _ h) _) ?_
            omega
        | err c =>
          rw [ht'] at hln
          simp only [resL, moreL, peerL] at hln
          have HLN := Lib.hid hln
          have HT := Lib.hid ht'
          clear hln ht'
          go_upto_region 5 with (first | (go_at_call 19; refine HTR.out.mono ?_; rintro e w' ⟨rfl, rfl⟩) | (go_at_call 18; refine HLN.out.mono ?_; rintro e w4 ⟨rfl, hb4, hk4⟩; have g3 := Lib.hid (Blk.cell hb4 3 _ rfl); have g3' := Lib.hid (Blk.free hb4 3); have d3 := g3.out; have d3' := g3'.out))
          have HH5 := Lib.hid (hb4.set 3 (errv ad (c - 1)))
          have HK5 := Lib.hid ((HK3.out.trans hk4 (fun _ _ e => e)).set h 3 (errv ad (c - 1)) (fun _ => rfl))
          clear g3 g3' d3 d3' hb4 hk4 c0' HH3 HK3 HLN HTR
          generalize World.setCell w4 _ _ = w5 at *
          have e0 := HH5.out.cell 0 _ rfl
          have e0' := HH5.out.free 0
          have HH6 := Lib.hid (HH5.out.set 0 (.string (bs [])))
          have HK6 := Lib.hid (HK5.out.set h 0 (.string (bs [])) (fun _ => rfl))
          clear HH5 HK5
          go_wp2_with fail
          go_roundw
          case rel => exact ⟨B, rfl, by omega, Lib.hid ⟨.err c, ⟨[], m, HH6.out⟩, by rw [HRR.out, HT.out]⟩, HK6⟩
          case measure =>
            simp only [strLen, bs_size]
            refine Nat.lt_of_le_of_lt (Nat.add_le_add_left (errBit_le _ h) _) ?_
            omega
end Go.Proofs.YtcopmaceklgfnaaDoor
