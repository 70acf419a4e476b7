/-
hello: Feed.
hello: the document's answer.
hello: Line, the document's Word; awake; how many others.
HelloOthers answers true.
-/
import Derived.BigQuiet
import Derived.Test.YtcbkbjpdfanjpaaGreatDoorPk33
import Derived.Test.YtcbkbjpdfanjpaaGreatDoorPk20
namespace Go.Proofs.YtcbkbjpdfanjpaaGreatDoor
open Go.RowKit HelP
set_option maxRecDepth 100000
theorem bs_app (a b : List UInt8) : bs a ++ bs b = bs (a ++ b) := by
  apply ByteArray.ext
  simp [bs, ByteArray.data_append]
/-- what a reader is in -/
def HSt (ad : Nat → Addr) (w : World) (h : Nat) : St → Prop
  | .wait p m => HB w h p m [] .nilIface ∧ m ≤ 1000 ∧ p.length ≤ 254
  | .done q => (∃ p m, HB w h p m q .nilIface) ∧ q ≠ []
  | .err c => ∃ p m, HB w h p m [] (errv ad (c - 1))
theorem HSt.below {ad : Nat → Addr} {w w' : World} {h : Nat} : ∀ {st : St}, HSt ad w h st → Below w.heap.size w w' → HSt ad w' h st
  | .wait _ _, hh, hb => ⟨Blk.below hh.1 hb (Blk.lt hh.1), hh.2⟩
  | .done _, ⟨⟨p, m, hh⟩, hq⟩, hb => ⟨⟨p, m, Blk.below hh hb (Blk.lt hh)⟩, hq⟩
  | .err _, ⟨p, m, hh⟩, hb => ⟨p, m, Blk.below hh hb (Blk.lt hh)⟩
theorem lineSt_wait {l p : List UInt8} {m m' : Nat} (h : lineSt l m = .wait p m') : p = [] ∧ m' ≤ m := by
  unfold lineSt at h
  split at h
  · cases h
  · split at h
    · split at h <;> cases h
    · split at h
      · cases h
      · cases h
        exact ⟨rfl, by omega⟩
theorem lineSt_done {l q : List UInt8} {m : Nat} (h : lineSt l m = .done q) : q ≠ [] := by
  have := fit_line l m
  rw [h] at this
  exact this
def strLen : Value → Nat
  | .string s => s.size
  | _ => 0
def errBit (w : World) (h : Nat) : Nat :=
  match w.cell? ⟨h, 3, none⟩ with
  | some .nilIface => 1
  | _ => 0
theorem errBit_le (w : World) (h : Nat) : errBit w h ≤ 1 := by unfold errBit; split <;> omega
theorem trim_ok (s : ByteArray) (hs : s.size ≤ 5000) (w : World) : Calls Tryz.prog 45 #[.string s, .string { data := #[13] }] w fun e w' => e = .returned (.string (bs (trimR s.data.toList))) ∧ w = w' :=
  (Sh.strings_TrimSuffix s { data := #[13] } w (by omega)).mono (by rintro e w' ⟨rfl, rfl⟩; exact ⟨rfl, rfl⟩)
theorem upTo_le (c : UInt8) (l : List UInt8) : (upTo c l).length ≤ l.length := by
  have h := congrArg List.length (upTo_take c l)
  rw [List.length_take] at h
  omega
theorem trimR_le (l : List UInt8) : (trimR l).length ≤ l.length := by
  unfold trimR
  split
  · rw [List.length_take]; omega
  · exact Nat.le_refl _
set_option maxHeartbeats 4000000 in
theorem feed_ok (ad : Nat → Addr) (h : Nat) (st : St) (s : ByteArray) (hs : s.size ≤ 2000000) (w : World) (hH : HSt ad w h st) (hS : ES w ad) (hh : ∀ g ∈ esGs, g ≠ h) :
    Calls Tryz.prog 11 #[.pointer (some ⟨h, 0, none⟩), .string s] w fun e w' => e = .returned (.tuple #[.string (bs (run s.data.toList st).2), resL ad (run s.data.toList st).1]) ∧ HSt ad w' h (run s.data.toList st).1 ∧ Keeps (fun k => k = h) w w' := by
  have HS := Lib.hid hS
  have H0 : Hid (∃ t, HSt ad w h t ∧ run s.data.toList t = run s.data.toList st) := Lib.hid ⟨st, hH, rfl⟩
  obtain ⟨R, hR⟩ : ∃ R, R = run s.data.toList st := ⟨_, rfl⟩
  rw [← hR] at H0 ⊢
  clear hS hH hR
  rw [show (Value.string s) = .string (bs s.data.toList) by rw [bs_of]]
  obtain ⟨l0, hl0⟩ : ∃ l, l = s.data.toList := ⟨_, rfl⟩
  have hl2 : l0.length ≤ 2000000 := by rw [hl0, Array.length_toList]; exact hs
  rw [← hl0] at H0 ⊢
  clear hs hl0
  go_enter Tryz.func11, Tryz.ntmps11
  go_wp2_with fail
  go_loopw [1] (fun v wx => ∃ l : List UInt8, v = .string (bs l) ∧ l.length ≤ 2000000 ∧ Hid (∃ t, HSt ad wx h t ∧ run l t = R) ∧ Hid (Keeps (fun k => k = h) w wx)) (fun v wx => 2 * strLen v + errBit wx h)
  case atStart => exact ⟨l0, rfl, hl2, H0, Lib.hid (Keeps.refl _ _)⟩
  case round =>
    obtain ⟨l, rfl, hl, ht, hk⟩ := hrel
    clear H0
    obtain ⟨t, htt, hrun⟩ := ht.out
    clear ht
    cases t with
    | done q =>
      obtain ⟨⟨p, m, hb⟩, hq⟩ := htt
      have hd := done_ok h p q m .nilIface wr hb
      have hqe : (!q.isEmpty) = true := by cases q with | nil => exact absurd rfl hq | cons a b => rfl
      rw [hqe] at hd
      have HD := Lib.hid hd
      have c3 := hb.cell 3 _ rfl
      have HBB := Lib.hid (And.intro hb hq)
      have hrr : R = (.done q, l) := by rw [← hrun, run_done]
      have HRR := Lib.hid hrr
      clear hd hqe hb hq hrun hrr
      go_wp2_with (go_at_call 42; refine HD.out.mono ?_; rintro e w' ⟨rfl, rfl⟩)
      go_ret2
      rw [HRR.out]
      exact ⟨rfl, ⟨⟨p, m, HBB.out.1⟩, HBB.out.2⟩, hk.out⟩
    | err c =>
      obtain ⟨p, m, hb⟩ := htt
      have hd := done_ok h p [] m (errv ad (c - 1)) wr hb
      have HD := Lib.hid hd
      have c3 := hb.cell 3 _ rfl
      have HBB := Lib.hid hb
      have hrr : R = (.err c, []) := by rw [← hrun, run_err]
      have HRR := Lib.hid hrr
      clear hd hb hrun hrr
      go_upto_region 11 with (go_at_call 42; refine HD.out.mono ?_; rintro e w' ⟨rfl, rfl⟩)
      go_region
      go_wp2_with fail
      go_ret2
      rw [HRR.out]
      exact ⟨rfl, ⟨p, m, Blk.below HBB.out (below_drewN (Below.refl _ _) 1) (Blk.lt HBB.out)⟩, hk.out.drewN 1⟩
    | wait p m =>
      obtain ⟨hb, hm, hp⟩ := htt
      have hd := done_ok h p [] m .nilIface wr hb
      have HD := Lib.hid hd
      have hct := cut1_ok (bs l) 10 (by rw [bs_size]; omega) wr
      rw [bs_l] at hct
      have HCT := Lib.hid hct
      have hrc := run_cut m l p hp
      rw [hrun] at hrc
      have HRC := Lib.hid hrc
      have hul := upTo_le 10 l
      obtain ⟨B, hB⟩ : ∃ B, B = (if (10 : UInt8) ∈ l then l.drop ((upTo 10 l).length + 1) else []) := ⟨_, rfl⟩
      obtain ⟨D, hD⟩ : ∃ D, D = decide ((10 : UInt8) ∈ l) := ⟨_, rfl⟩
      rw [← hB, ← hD] at HCT
      have HBD := Lib.hid (And.intro hB hD)
      have hz1 := bs_size p
      have hz2 := bs_size (upTo 10 l)
      have c3 := hb.cell 3 _ rfl
      have HW0 := Lib.hid hb
      have HEB : Hid (errBit wr h = 1) := Lib.hid (by unfold errBit; rw [c3])
      clear hd hct hrc hrun hB hD hb
      go_upto_region 3 with (first | (go_at_call 42; refine HD.out.mono ?_; rintro e w' ⟨rfl, rfl⟩) | (go_at_call 43; refine HCT.out.mono ?_; rintro e w2 ⟨rfl, hb2⟩))
      have HH2 := Lib.hid (show HB w2 h p m [] .nilIface from Blk.below HW0.out hb2 (Blk.lt HW0.out))
      have HK2 := Lib.hid (hk.out.trans (Keeps.of_below (F := fun k => k = h) hb2) (fun _ _ e => e))
      have c0 := HH2.out.cell 0 _ rfl
      have f0 := HH2.out.free 0
      have HH3 := Lib.hid (show HB (w2.setCell ⟨h, 0, none⟩ (.string (bs p ++ bs (upTo 10 l)))) h (p ++ upTo 10 l) m [] .nilIface by
        have e := HH2.out.set 0 (.string (bs p ++ bs (upTo 10 l)))
        unfold HB
        rw [← bs_app]
        exact e)
      have HK3 := Lib.hid (HK2.out.set h 0 (.string (bs p ++ bs (upTo 10 l))) (fun _ => rfl))
      clear hb2 hk HD HCT c3 HW0
      rw [bs_app] at HH3 HK3
      go_upto_region 6 with fail
      rw [bs_app]
      obtain ⟨P2, hP2⟩ : ∃ P2, P2 = p ++ upTo 10 l := ⟨_, rfl⟩
      have hl2 : P2.length = p.length + (upTo 10 l).length := by rw [hP2, List.length_append]
      rw [← hP2] at HH3 HK3 HRC ⊢
      have HP2 := Lib.hid hP2
      clear hP2 c0 f0 HH2 HK2 hz1 hz2
      generalize World.setCell w2 _ _ = w3 at *
      have c0' := HH3.out.cell 0 _ rfl
      have c3' := HH3.out.cell 3 _ rfl
      have f3' := HH3.out.free 3
      have hz3 := bs_size P2
      by_cases hbig : 254 < P2.length
      · have hrr := HRC.out
        rw [if_pos hbig] at hrr
        have HRR := Lib.hid hrr
        have e3 : w3.cell? ⟨2, 0, none⟩ = some (errv ad 3) := HK3.out.cell HS.out.c3 (hh _ (by decide))
        have HH4 := Lib.hid (HH3.out.set 3 (errv ad 3))
        have HK4 := Lib.hid (HK3.out.set h 3 (errv ad 3) (fun _ => rfl))
        have HEB2 : Hid (errBit (w3.setCell ⟨h, 3, none⟩ (errv ad 3)) h = 0) := Lib.hid (by
          unfold errBit
          rw [HH4.out.cell 3 _ rfl])
        clear hrr HH3 HK3
        go_wp2_with fail
        go_roundw
        case rel => exact ⟨l, rfl, hl, Lib.hid ⟨.err 4, ⟨P2, m, HH4.out⟩, by rw [run_err, HRR.out]⟩, HK4⟩
        case measure => rw [HEB.out, HEB2.out]; omega
      · have hrr := HRC.out
        rw [if_neg hbig] at hrr
        cases D with
        | false =>
          have h10 : (10 : UInt8) ∉ l := of_decide_eq_false HBD.out.2.symm
          have hw : R = (.wait P2 m, []) := by rw [hrr, if_neg h10, HP2.out, upTo_not h10]
          have HRR := Lib.hid hw
          have hpl : P2.length ≤ 254 := by omega
          clear hrr h10 hw
          go_wp2_with fail
          go_ret2
          rw [HRR.out]
          exact ⟨rfl, ⟨HH3.out, hm, hpl⟩, HK3.out⟩
        | true =>
         have h10 : (10 : UInt8) ∈ l := of_decide_eq_true HBD.out.2.symm
         rw [if_pos h10] at hrr
         have hBd : B = l.drop ((upTo 10 l).length + 1) := by rw [HBD.out.1, if_pos h10]
         have hBl : B.length + 1 ≤ l.length := by
           have e := congrArg List.length (upTo_mem h10)
           rw [List.length_append, List.length_cons, ← hBd] at e
           omega
         rw [← hBd] at hrr
         have HRR := Lib.hid hrr
         have htr := trim_ok (bs P2) (by rw [bs_size]; omega) w3
         rw [bs_l] at htr
         have HTR := Lib.hid htr
         have hln := line_ok ad h P2 m hm (bs (trimR P2)) (by rw [bs_size]; have := trimR_le P2; omega) w3 HH3.out (HS.out.keeps HK3.out hh)
         rw [bs_l] at hln
         clear hrr h10 hBd htr c3' f3'
         cases ht' : lineSt (trimR P2) m with
        | wait p' m' =>
          rw [ht'] at hln
          simp only [resL, moreL, peerL] at hln
          have HLN := Lib.hid hln
          have HT := Lib.hid ht'
          have hpw := lineSt_wait ht'
          have hpe := hpw.1
          subst hpe
          have hm' : m' ≤ 1000 := by omega
          clear hln ht'
          go_upto_region 5 with (first | (go_at_call 45; refine HTR.out.mono ?_; rintro e w' ⟨rfl, rfl⟩) | (go_at_call 44; refine HLN.out.mono ?_; rintro e w4 ⟨rfl, hb4, hk4⟩; have g3 := Lib.hid (Blk.cell hb4 3 _ rfl); have g3' := Lib.hid (Blk.free hb4 3); have d3 := g3.out; have d3' := g3'.out))
          have HH5 := Lib.hid (hb4.set 3 (.nilIface))
          have HK5 := Lib.hid ((HK3.out.trans hk4 (fun _ _ e => e)).set h 3 (.nilIface) (fun _ => rfl))
          clear g3 g3' d3 d3' hb4 hk4 c0' HH3 HK3 HLN HTR
          generalize World.setCell w4 _ _ = w5 at *
          have e0 := HH5.out.cell 0 _ rfl
          have e0' := HH5.out.free 0
          have HH6 := Lib.hid (HH5.out.set 0 (.string (bs [])))
          have HK6 := Lib.hid (HK5.out.set h 0 (.string (bs [])) (fun _ => rfl))
          clear HH5 HK5
          go_wp2_with fail
          go_roundw
          case rel => exact ⟨B, rfl, by omega, Lib.hid ⟨.wait [] m', ⟨HH6.out, hm', Nat.zero_le _⟩, by rw [HRR.out, HT.out]⟩, HK6⟩
          case measure =>
            simp only [strLen, bs_size]
            refine Nat.lt_of_le_of_lt (Nat.add_le_add_left (errBit_le _ h) _) ?_
            omega
        | done q =>
          rw [ht'] at hln
          simp only [resL, moreL, peerL] at hln
          have HLN := Lib.hid hln
          have HT := Lib.hid ht'
          have hqn := lineSt_done ht'
          have HQN := Lib.hid hqn
          clear hln ht'
          go_upto_region 5 with (first | (go_at_call 45; refine HTR.out.mono ?_; rintro e w' ⟨rfl, rfl⟩) | (go_at_call 44; refine HLN.out.mono ?_; rintro e w4 ⟨rfl, hb4, hk4⟩; have g3 := Lib.hid (Blk.cell hb4 3 _ rfl); have g3' := Lib.hid (Blk.free hb4 3); have d3 := g3.out; have d3' := g3'.out))
          have HH5 := Lib.hid (hb4.set 3 (.nilIface))
          have HK5 := Lib.hid ((HK3.out.trans hk4 (fun _ _ e => e)).set h 3 (.nilIface) (fun _ => rfl))
          clear g3 g3' d3 d3' hb4 hk4 c0' HH3 HK3 HLN HTR
          generalize World.setCell w4 _ _ = w5 at *
          have e0 := HH5.out.cell 0 _ rfl
          have e0' := HH5.out.free 0
          have HH6 := Lib.hid (HH5.out.set 0 (.string (bs [])))
          have HK6 := Lib.hid (HK5.out.set h 0 (.string (bs [])) (fun _ => rfl))
          clear HH5 HK5
          go_wp2_with fail
          go_roundw
          case rel => exact ⟨B, rfl, by omega, Lib.hid ⟨.done q, ⟨⟨[], m, HH6.out⟩, HQN.out⟩, by rw [HRR.out, HT.out]⟩, HK6⟩
          case measure =>
            simp only [strLen, bs_size]
            refine Nat.lt_of_le_of_lt (Nat.add_le_add_left (errBit_le _ h) _) ?_
            omega
        | err c =>
          rw [ht'] at hln
          simp only [resL, moreL, peerL] at hln
          have HLN := Lib.hid hln
          have HT := Lib.hid ht'
          clear hln ht'
          go_upto_region 5 with (first | (go_at_call 45; refine HTR.out.mono ?_; rintro e w' ⟨rfl, rfl⟩) | (go_at_call 44; refine HLN.out.mono ?_; rintro e w4 ⟨rfl, hb4, hk4⟩; have g3 := Lib.hid (Blk.cell hb4 3 _ rfl); have g3' := Lib.hid (Blk.free hb4 3); have d3 := g3.out; have d3' := g3'.out))
          have HH5 := Lib.hid (hb4.set 3 (errv ad (c - 1)))
          have HK5 := Lib.hid ((HK3.out.trans hk4 (fun _ _ e => e)).set h 3 (errv ad (c - 1)) (fun _ => rfl))
          clear g3 g3' d3 d3' hb4 hk4 c0' HH3 HK3 HLN HTR
          generalize World.setCell w4 _ _ = w5 at *
          have e0 := HH5.out.cell 0 _ rfl
          have e0' := HH5.out.free 0
          have HH6 := Lib.hid (HH5.out.set 0 (.string (bs [])))
          have HK6 := Lib.hid (HK5.out.set h 0 (.string (bs [])) (fun _ => rfl))
          clear HH5 HK5
          go_wp2_with fail
          go_roundw
          case rel => exact ⟨B, rfl, by omega, Lib.hid ⟨.err c, ⟨[], m, HH6.out⟩, by rw [HRR.out, HT.out]⟩, HK6⟩
          case measure =>
            simp only [strLen, bs_size]
            refine Nat.lt_of_le_of_lt (Nat.add_le_add_left (errBit_le _ h) _) ?_
            omega
end Go.Proofs.YtcbkbjpdfanjpaaGreatDoor

namespace Go.Proofs.YtcbkbjpdfanjpaaGreatDoor
open Go.RowKit HelP
set_option maxRecDepth 100000
theorem pre_take (b l : List UInt8) : b.isPrefixOf l = decide (l.take b.length = b) := by
  rw [Bool.eq_iff_iff, List.isPrefixOf_iff_prefix, decide_eq_true_iff]
  exact ⟨fun h => (List.prefix_iff_eq_take.1 h).symm, fun h => List.prefix_iff_eq_take.2 h.symm⟩
/-- what is behind the first word of a version's line -/
def verT (l : List UInt8) : List UInt8 := if now.isPrefixOf l then l.drop 8 else if old.isPrefixOf l then l.drop 9 else []
def verB (l : List UInt8) : Bool := now.isPrefixOf l || old.isPrefixOf l
theorem ver_tb (l : List UInt8) : verOk l = (verB l && wordL (upTo 32 (verT l))) := by
  unfold verOk verB verT
  by_cases h1 : now.isPrefixOf l = true
  · rw [if_pos h1, if_pos h1, h1]; rfl
  · rw [if_neg h1, if_neg h1, Bool.eq_false_iff.2 h1]
    by_cases h2 : old.isPrefixOf l = true
    · rw [if_pos h2, if_pos h2, h2]; rfl
    · rw [if_neg h2, if_neg h2, Bool.eq_false_iff.2 h2]; rfl
theorem upTo_at {c : UInt8} : ∀ {l : List UInt8} {k : Nat}, (∀ x ∈ l.take k, x ≠ c) → (∀ x, l[k]? = some x → x = c) → upTo c l = l.take k
  | [], k, _, _ => by simp [upTo]
  | x :: l, 0, _, h2 => by
    have := h2 x rfl
    simp [upTo, this]
  | x :: l, k + 1, h1, h2 => by
    have hx : x ≠ c := h1 x (by simp)
    have e : upTo c (x :: l) = x :: upTo c l := by simp [upTo, hx]
    rw [e, List.take_succ_cons, upTo_at (fun y hy => h1 y (by rw [List.take_succ_cons]; exact List.mem_cons_of_mem _ hy)) (fun y hy => h2 y (by simpa using hy))]
/-- what comes of all -/
def ansL : St → List UInt8 → Value
  | .wait _ _, _ => .agg #[.string (bs []), .string (bs []), .int .i64 0]
  | .done q, r => .agg #[.string (bs q), .string (bs r), .int .i64 0]
  | .err c, _ => .agg #[.string (bs []), .string (bs []), .int .i64 (c : Nat)]
theorem ext_one (s : ByteArray) (i : Nat) (h : i < s.size) : s.extract i (i + 1) = bs [s[i]'h] := by
  have hl : i < s.data.toList.length := by rw [Array.length_toList]; exact h
  apply ByteArray.ext
  apply Array.ext'
  simp only [bs, ByteArray.data_extract, Array.toList_extract, List.extract_eq_take_drop]
  rw [show i + 1 - i = 1 by omega, List.drop_eq_getElem_cons hl, List.take_succ_cons, List.take_zero]
  rfl
theorem drop_at (s : ByteArray) (i : Nat) (h : i < s.size) : s.data.toList.drop i = s[i]'h :: s.data.toList.drop (i + 1) := by
  have hl : i < s.data.toList.length := by rw [Array.length_toList]; exact h
  rw [List.drop_eq_getElem_cons hl]
  rfl
theorem suf_at (p : List UInt8) : List.isSuffixOf [13] p = decide (p ≠ [] ∧ p.getD (p.length - 1) 0 = 13) := by
  rw [Bool.eq_iff_iff, List.isSuffixOf_iff_suffix, decide_eq_true_iff]
  constructor
  · rintro ⟨t, rfl⟩
    simp
  · rintro ⟨h1, h2⟩
    refine ⟨p.dropLast, ?_⟩
    conv => rhs; rw [← List.dropLast_concat_getLast h1]
    rw [← h2, List.getD_eq_getElem?_getD, List.getLast_eq_getElem, List.getElem?_eq_getElem]
    rfl
theorem trimR_cut {p : List UInt8} (h : p ≠ [] ∧ p.getD (p.length - 1) 0 = 13) : trimR p = p.take (p.length - 1) := by
  unfold trimR
  rw [suf_at, decide_eq_true h]
  rfl
theorem trimR_not {p : List UInt8} (h : ¬(p ≠ [] ∧ p.getD (p.length - 1) 0 = 13)) : trimR p = p := by
  unfold trimR
  rw [suf_at, decide_eq_false h]
  rfl
theorem getD_mem {l : List UInt8} {k : Nat} (h : k < l.length) : l.getD k 0 ∈ l := by
  rw [List.getD_eq_getElem?_getD, List.getElem?_eq_getElem h]
  exact List.getElem_mem h
theorem take_one {l : List UInt8} {k : Nat} (h : k < l.length) : l.take (k + 1) = l.take k ++ [l.getD k 0] := by
  rw [List.take_add_one, List.getD_eq_getElem?_getD, List.getElem?_eq_getElem h]
  rfl
theorem verT_le (l : List UInt8) : (verT l).length ≤ l.length := by
  unfold verT
  split
  · rw [List.length_drop]; omega
  · split
    · rw [List.length_drop]; omega
    · exact Nat.zero_le _
end Go.Proofs.YtcbkbjpdfanjpaaGreatDoor

namespace Go.Proofs.YtcbkbjpdfanjpaaGreatDoor
open Go.RowKit HelP
set_option maxRecDepth 100000
/-- a peer that was made after the sentinels reads -/
theorem feedN (ad : Nat → Addr) (w0 w : World) (h : Nat) (st : St) (l : List UInt8) (hl : l.length ≤ 2000000) (hS : ES w0 ad) (hb : Below w0.heap.size w0 w) (hh : w0.heap.size ≤ h) (hH : HSt ad w h st) :
    Calls Tryz.prog 11 #[.pointer (some ⟨h, 0, none⟩), .string (bs l)] w fun e w' => e = .returned (.tuple #[.string (bs (run l st).2), resL ad (run l st).1]) ∧ HSt ad w' h (run l st).1 ∧ Below w0.heap.size w0 w' ∧ Keeps (fun k => k = h) w w' :=
  (feed_ok ad h st (bs l) (by rw [bs_size]; exact hl) w hH (hS.same hb) (hS.off hh)).mono (by
    rintro e w' ⟨rfl, h1, h2⟩
    exact ⟨rfl, h1, hb.trans (Keeps.below h2 hb.size (fun k hk e => by omega)), h2⟩)
theorem hline_ok (ad : Nat → Addr) (s : ByteArray) (hs : s.size ≤ 2000) (w : World) (hS : ES w ad) : Calls Tryz.prog 5 #[.string s] w fun e w' =>
    e = .returned (.tuple #[.string (bs (if wordL s.data.toList then now ++ s.data.toList ++ [13, 10] else [])), if wordL s.data.toList then .nilIface else errv ad 0]) ∧ Below w.heap.size w w' := by
  have e0 : w.cell? ⟨0, 0, none⟩ = some (errv ad 0) := hS.c0
  have hw := word_ok s hs w
  have h2 := bs_app (bs now).data.toList (bs s.data.toList).data.toList
  clear hS
  generalize hV : wordL s.data.toList = V at *
  have HW := Lib.hid hw
  clear hw hV
  cases V
  · go_enter Tryz.func5, Tryz.ntmps5
    go_upto_region 2 with (go_at_call 19; refine HW.out.mono ?_; rintro e w' ⟨rfl, rfl⟩)
    go_region
    go_wp2_with fail
    go_ret2
    exact ⟨rfl, below_drewN (Below.refl _ _) 1⟩
  · simp only [if_true]
    rw [← bs_app, ← bs_app, bs_of]
    go_enter Tryz.func5, Tryz.ntmps5
    go_wp2_with (go_at_call 19; refine HW.out.mono ?_; rintro e w' ⟨rfl, rfl⟩)
    go_ret2
    exact ⟨rfl, Below.refl _ _⟩
def awL : List UInt8 := [83, 83, 72, 45, 50, 46, 48, 45, 120, 13, 10, 97, 98]
def awP : List UInt8 := [83, 83, 72, 45, 50, 46, 48, 45, 120]
theorem aw_fact : run awL (.wait [] 0) = (.done awP, [97, 98]) := by rfl
end Go.Proofs.YtcbkbjpdfanjpaaGreatDoor

namespace Go.Proofs.YtcbkbjpdfanjpaaGreatDoor
open Go.RowKit HelP
set_option maxRecDepth 100000
def hiN : Nat → List UInt8
  | 0 => []
  | n + 1 => [104, 105, 10] ++ hiN n
theorem hiN_snoc : ∀ n, hiN n ++ [104, 105, 10] = hiN (n + 1)
  | 0 => rfl
  | n + 1 => by
    show [104, 105, 10] ++ hiN n ++ [104, 105, 10] = [104, 105, 10] ++ hiN (n + 1)
    rw [← hiN_snoc n, List.append_assoc]
theorem hiN_len : ∀ n, (hiN n).length = 3 * n
  | 0 => rfl
  | n + 1 => by
    show ([104, 105, 10] ++ hiN n).length = _
    rw [List.length_append, hiN_len n]
    simp
    omega
theorem run_hi (r : List UInt8) : ∀ n m, run (hiN n ++ r) (.wait [] m) = if n ≤ m then run r (.wait [] (m - n)) else (.err 12, [])
  | 0, m => by rw [if_pos (Nat.zero_le _)]; rfl
  | n + 1, 0 => by
    rw [if_neg (by omega)]
    show run (hiN n ++ r) (.err 12) = _
    exact run_err _ _
  | n + 1, m + 1 => by
    show run (hiN n ++ r) (.wait [] m) = _
    rw [run_hi r n m]
    by_cases h : n ≤ m
    · rw [if_pos h, if_pos (by omega), show m + 1 - (n + 1) = m - n by omega]
    · rw [if_neg h, if_neg (by omega)]
def yL : List UInt8 := [83, 83, 72, 45, 50, 46, 48, 45, 121]
theorem run_y (m : Nat) : run [83, 83, 72, 45, 50, 46, 48, 45, 121, 10] (.wait [] m) = (.done yL, []) := rfl
def xN (k : Nat) : List UInt8 := yL ++ (32 :: List.replicate k 120)
theorem xN_snoc (k : Nat) : List.replicate k (120 : UInt8) ++ [120] = List.replicate (k + 1) 120 := by
  rw [← List.replicate_succ']
theorem xN_len (k : Nat) : (xN k).length = k + 10 := by simp [xN, yL]
theorem xN_free (k : Nat) (c : UInt8) (h : c ∉ ([83, 83, 72, 45, 50, 46, 48, 45, 121, 32, 120] : List UInt8)) : c ∉ xN k := by
  intro hm
  apply h
  unfold xN yL at hm
  simp only [List.mem_append, List.mem_cons, List.mem_replicate] at hm ⊢
  rcases hm with hm | hm | hm
  · rcases hm with hm | hm | hm | hm | hm | hm | hm | hm | hm | hm <;> simp_all
  · simp_all
  · simp_all
theorem line_x (k m : Nat) : lineSt (trimR (xN k)) m = .done (xN k) := by
  have ht : trimR (xN k) = xN k := by
    refine trimR_not fun h => xN_free k 13 (by decide) ?_
    rw [← h.2]
    exact getD_mem (by rw [xN_len]; omega)
  rw [ht]
  unfold lineSt
  rw [if_neg (xN_free k 0 (by decide)), if_pos (show ssh.isPrefixOf (xN k) = true from rfl), if_pos (show verOk (xN k) = true from rfl)]
theorem run_x (k : Nat) : run (xN k ++ [10]) (.wait [] 16) = if k + 10 < 255 then (.done (xN k), []) else (.err 4, []) := by
  by_cases h : k + 10 < 255
  · rw [if_pos h, run_line 16 [] (xN k) [] (xN_free k 10 (by decide)) (Nat.zero_le _) (by rw [List.nil_append, xN_len]; omega), List.nil_append, line_x]
    rfl
  · rw [if_neg h, run_part 16 [10] (xN k) [] (xN_free k 10 (by decide)) (Nat.zero_le _), if_pos (by rw [List.nil_append, xN_len]; omega)]
theorem HSt.keeps {ad : Nat → Addr} {w w' : World} {h k : Nat} (hk : Keeps (fun i => i = k) w w') (hne : h ≠ k) : ∀ {st : St}, HSt ad w h st → HSt ad w' h st
  | .wait _ _, hh => ⟨hk.blk hh.1 hne, hh.2⟩
  | .done _, ⟨⟨p, m, hh⟩, hq⟩ => ⟨⟨p, m, hk.blk hh hne⟩, hq⟩
  | .err _, ⟨p, m, hh⟩ => ⟨p, m, hk.blk hh hne⟩
def doneB : St → Bool
  | .done _ => true
  | _ => false
/-- Done, of whatever it is in -/
theorem doneS (ad : Nat → Addr) (h : Nat) (st : St) (w : World) (hH : HSt ad w h st) : Calls Tryz.prog 42 #[.pointer (some ⟨h, 0, none⟩)] w fun e w' => e = .returned (.bool (doneB st)) ∧ w = w' := by
  cases st with
  | wait p m => exact done_ok h p [] m .nilIface w hH.1
  | err c => obtain ⟨p, m, hb⟩ := hH; exact done_ok h p [] m _ w hb
  | done q =>
    obtain ⟨⟨p, m, hb⟩, hq⟩ := hH
    have := done_ok h p q m _ w hb
    have hqe : (!q.isEmpty) = true := by cases q with | nil => exact absurd rfl hq | cons a b => rfl
    rw [hqe] at this
    exact this
theorem peerS (ad : Nat → Addr) (h : Nat) (st : St) (w : World) (hH : HSt ad w h st) : Calls Tryz.prog 17 #[.pointer (some ⟨h, 0, none⟩)] w fun e w' => e = .returned (.string (bs (peerL st))) ∧ w = w' := by
  cases st with
  | wait p m => exact peer_ok h p [] m .nilIface w hH.1
  | err c => obtain ⟨p, m, hb⟩ := hH; exact peer_ok h p [] m _ w hb
  | done q => obtain ⟨⟨p, m, hb⟩, hq⟩ := hH; exact peer_ok h p q m _ w hb
end Go.Proofs.YtcbkbjpdfanjpaaGreatDoor
