/-
edsign: multiples of a point; a point's bytes.
edsign: a point's bytes.
edsign: the curve.
edsign: the point of bytes.
-/
import Derived.Test.YtkhdhiddhnmdkaaGreatDoorPk25
import Derived.Test.YtkhdhiddhnmdkaaGreatDoorPk28
namespace Go.Proofs.YtkhdhiddhnmdkaaGreatDoor
open Go.RowKit
namespace Eds
/-- four elements that are the point P -/
def PtV (l : List Nat) (P : Ed.Pt) : Prop := ∃ X Y Z T, Co l X Y Z T ∧ Ed.Ex X Y Z T P
theorem PtV.len {l : List Nat} {P : Ed.Pt} (h : PtV l P) : l.length = 20 := let ⟨_, _, _, _, h, _⟩ := h; h.len
abbrev CvE (w : World) (b : Nat) (lb : List Nat) : Prop := Cv w b Ed.d (Ed.d + Ed.d) lb
theorem add_pt {b : Nat} {lb l1 l2 : List Nat} {P Q : Ed.Pt} {w : World} (hc : CvE w b lb) (h1 : PtV l1 P) (h2 : PtV l2 Q) :
    Calls Tryz.prog 63 #[.pointer (some ⟨b, 0, none⟩), .agg (uvals l1).toArray, .agg (uvals l2).toArray] w fun e w' => ∃ l, e = .returned (.agg (uvals l).toArray) ∧ PtV l (Ed.add P Q) ∧ Below w.heap.size w w' := by
  obtain ⟨X1, Y1, Z1, T1, C1, E1⟩ := h1
  obtain ⟨X2, Y2, Z2, T2, C2, E2⟩ := h2
  refine (add_ok b _ _ lb l1 l2 _ _ _ _ _ _ _ _ w hc C1 C2).mono ?_
  rintro e w' ⟨l, rfl, hco, hb⟩
  exact ⟨l, rfl, ⟨_, _, _, _, hco, E1.add E2⟩, hb⟩
theorem Cv.farRow {w : World} {b c : Nat} {d d2 : Fp} {l : List Nat} (h : Cv w b d d2 l) (hne : b ≠ c) (r : Array Value) : Cv (w.setRow c r) b d d2 l := by
  obtain ⟨⟨ld, lt, H, a, c, e⟩⟩ := h
  exact ⟨⟨ld, lt, H.farRow hne _, a, c, e⟩⟩
theorem Cv.lt {w : World} {b : Nat} {d d2 : Fp} {l : List Nat} (h : Cv w b d d2 l) : b < w.heap.size := let ⟨⟨_, _, H, _⟩⟩ := h; H.lt
theorem blk_type {w : World} {b : Nat} {t t' : TypeId} {cs cs' : List Value} (h : Blk w b t cs) (h' : Blk w b t' cs') : t = t' := by
  unfold Blk at *
  rw [h] at h'
  simp at h'
  exact h'.2
/-- what stands in the loop -/
structure MI (w wr : World) (b c7 g : Nat) (lb lp : List Nat) (l : List UInt8) (lo : List Nat) : Prop where
  v : CvE wr b lb
  p : Blk wr (w.heap.size + 1) tQ (uvals lp)
  r : Blk wr (w.heap.size + 2) tQ (uvals zero20)
  o : Blk wr c7 tQ (uvals lo)
  bits : Blk wr g 4 (bitvals l 256)
  bel : Below w.heap.size w wr
theorem MI.step {w wr w2 : World} {b c7 g : Nat} {lb lp lo : List Nat} {l : List UInt8} (h : MI w wr b c7 g lb lp l lo) (hb : Below wr.heap.size wr w2) (lo2 : List Nat) (hbw : b < w.heap.size) (h7 : w.heap.size + 2 < c7) : MI w (w2.setRow c7 (uvals lo2).toArray) b c7 g lb lp l lo2 :=
  ⟨(h.v.below hb).farRow (by omega) _, (h.p.below hb h.p.lt).farRow (by omega) _, (h.r.below hb h.r.lt).farRow (by omega) _, (h.o.below hb h.o.lt).setRow _,
    (h.bits.below hb h.bits.lt).farRow (fun e => by
      have h1 := h.bits
      rw [e] at h1
      exact absurd (blk_type h1 h.o) (by decide)) _, below_row (h.bel.trans (hb.mono h.bel.size)) _ _ (by omega)⟩
theorem bitv_is {l : List UInt8} (hl : l.length = 32) (i : Nat) (hi : i < 256) : bitv l i = Ed.bitB (le8 l) i := by
  unfold bitv Ed.bitB
  rw [le8_bit' l i (by omega)]
  generalize le8 l / 2 ^ i % 2 = m
  by_cases h : m = 1
  · subst h; rfl
  · rw [beq_eq_false_iff_ne.2 h, beq_eq_false_iff_ne.2 (by omega)]
theorem smul_down (n : Nat) (P : Ed.Pt) (j : Nat) (hj : j < 256) (c : Bool) (hc : Ed.bitB n (255 - j) = c) : Ed.smul (n / 2 ^ (256 - (j + 1))) P = if c then Ed.add (Ed.add (Ed.smul (n / 2 ^ (256 - j)) P) (Ed.smul (n / 2 ^ (256 - j)) P)) P else Ed.add (Ed.smul (n / 2 ^ (256 - j)) P) (Ed.smul (n / 2 ^ (256 - j)) P) := by
  rw [Ed.bit_down n j hj, hc, Ed.smul_bit]
theorem smul_first (n : Nat) (P : Ed.Pt) (hn : n < 2 ^ 256) : Ed.smul (n / 2 ^ (256 - 0)) P = Ed.O := by
  rw [Nat.sub_zero, Nat.div_eq_of_lt hn]
  rfl
set_option maxHeartbeats 8000000 in
set_option maxRecDepth 100000 in
theorem mult_pt (b : Nat) (lb lp : List Nat) (P : Ed.Pt) (l : List UInt8) (w : World) (hl : l.length = 32) (hc : CvE w b lb) (hp : PtV lp P) :
    Calls Tryz.prog 33 #[.pointer (some ⟨b, 0, none⟩), .agg (bvals l).toArray, .agg (uvals lp).toArray] w fun e w' => ∃ lo, e = .returned (.agg (uvals lo).toArray) ∧ PtV lo (Ed.smul (le8 l) P) ∧ Below w.heap.size w w' := by
  have HBI := Lib.hid (fun i hi => bitv_is hl i hi)
  have hn : le8 l < 2 ^ 256 := by have := le8_lt l; rw [hl] at this; exact this
  have S0 := Lib.hid (smul_first (le8 l) P hn)
  have SD := Lib.hid (smul_down (le8 l) P)
  have SE : Hid (Ed.smul (le8 l / 2 ^ (256 - 256)) P = Ed.smul (le8 l) P) := by show _ = _; rw [Nat.sub_self, Nat.pow_zero, Nat.div_one]
  generalize le8 l = n at *
  have HLP := hp.len
  have hbw := hc.lt
  go_enter Tryz.func33, Tryz.ntmps33
  go_upto_region 1 with fail
  refine wp_gen (fun wx => Blk wx w.heap.size tB (bvals l) ∧ Blk wx (w.heap.size + 1) tQ (uvals lp) ∧ Blk wx (w.heap.size + 2) tQ (uvals zero20) ∧ Below w.heap.size w wx) ⟨((Blk.new w _ _).alloc _).alloc _, (Blk.new2 _ _ _ _).alloc _, Blk.new3 _ _ _ _ _, below3 _ _ _ _⟩ ?_
  rintro w1 ⟨O4, O5, O6, BW⟩
  go_wp2_with fail
  refine (zero_ok w1).mono ?_
  rintro e w2 ⟨lz, rfl, CZ, hb⟩
  have PZ : PtV lz (Ed.smul (n / 2 ^ (256 - 0)) P) := by rw [S0.out]; exact ⟨_, _, _, _, CZ, Ed.ex_O⟩
  have LZ := CZ.len
  replace O4 := O4.below hb O4.lt
  replace O5 := O5.below hb O5.lt
  replace O6 := O6.below hb O6.lt
  replace BW := BW.trans (hb.mono BW.size)
  clear hb
  go_upto_region 2 with (refine newQ rfl rfl rfl rfl rfl LZ (by go_simp) (by go_simp) (fun w3 R hb => ?_))
  have h7 : w.heap.size + 2 < w2.heap.size := O6.lt
  replace O4 := O4.below hb O4.lt
  replace O5 := O5.below hb O5.lt
  replace O6 := O6.below hb O6.lt
  replace BW := BW.trans (hb.mono BW.size)
  clear hb
  generalize w2.heap.size = c7 at *
  go_simp
  go_wp2_with (first | refine load_ar O4 hl rfl rfl rfl ?_)
  refine (bits_ok l w3 hl).mono ?_
  rintro e w4 ⟨g, rfl, OG, hb⟩
  have H0 : MI w w4 b c7 g lb lp l lz := ⟨hc.below (BW.trans (hb.mono BW.size)), O5.below hb O5.lt, O6.below hb O6.lt, R.below hb R.lt, OG, BW.trans (hb.mono BW.size)⟩
  clear O4 O5 O6 BW R hb OG hc
  go_wp2_with fail
  go_loopw [9] (fun v9 wr => ∃ j : Nat, j ≤ 256 ∧ v9 = .int .i64 (255 - (j : Int)) ∧ ∃ lo, MI w wr b c7 g lb lp l lo ∧ PtV lo (Ed.smul (n / 2 ^ (256 - j)) P)) (fun v9 _ => (intOf v9 + 1).toNat)
  case atStart => exact ⟨0, by omega, rfl, lz, H0, PZ⟩
  case round =>
    clear H0 PZ CZ LZ
    obtain ⟨j, hj, rfl, lo, H, PO⟩ := hrel
    by_cases hgo : j < 256
    · obtain ⟨i, hi⟩ : ∃ i, i = 255 - j := ⟨_, rfl⟩
      have hi' : (255 : Int) - (j : Int) = (i : Nat) := by omega
      rw [hi']
      have hbit := HBI.out i (by omega)
      have hget := bitvals_get l i (by omega)
      have hsd := Lib.hid (SD.out j hgo (bitv l i) (by rw [← hi, ← hbit]))
      have HI : Hid (i = 255 - j) := hi
      have HG : Hid (j < 256) := hgo
      have hib : i < 256 := by omega
      have LO := PO.len
      clear hi hi' hgo hj hbit
      go_upto_region 7 with (first | refine load_qt H.o LO rfl rfl rfl ?_ | (go_at_call 63; refine (add_pt H.v PO PO).mono ?_; rintro e w5 ⟨lo2, rfl, PO2, hb⟩; have H2 := H.step hb lo2 hbw h7; have LO2 := PO2.len; have OB := H.o.below hb H.o.lt) | refine store_pt OB LO LO2 rfl rfl rfl rfl ?_)
      refine wp_gen (fun wx => MI w wx b c7 g lb lp l lo2) H2 ?_
      clear H H2 OB hb
      rintro w6 H
      have hcell := H.bits.cell i _ hget
      have hp' := H.p
      cases hv : bitv l i
      · rw [hv] at hcell hsd
        go_wp2_with fail
        go_roundw
        case rel =>
          have hi := HI.out
          have hgo := HG.out
          exact ⟨j + 1, by omega, elval_int (by omega), lo2, H, by rw [hsd.out]; exact PO2⟩
        case measure =>
          have hi := HI.out
          simp [intOf] <;> omega
      · rw [hv] at hcell hsd
        go_wp2_with (first | refine load_qt H.o LO2 rfl rfl rfl ?_ | refine load_qt hp' HLP rfl rfl rfl ?_ | (go_at_call 63; refine (add_pt H.v PO2 hp).mono ?_; rintro e w7 ⟨lo3, rfl, PO3, hb⟩; have H2 := H.step hb lo3 hbw h7; have LO3 := PO3.len; have OB := H.o.below hb H.o.lt) | refine store_pt OB LO2 LO3 rfl rfl rfl rfl ?_)
        go_roundw
        case rel =>
          have hi := HI.out
          have hgo := HG.out
          exact ⟨j + 1, by omega, elval_int (by omega), lo3, H2, by rw [hsd.out]; exact PO3⟩
        case measure =>
          have hi := HI.out
          simp [intOf] <;> omega
    · obtain rfl : j = 256 := by omega
      have LO := PO.len
      rw [SE.out] at PO
      clear hgo hj
      go_wp2_with (first | refine load_qt H.o LO rfl rfl rfl ?_ | refine store_pt H.r rfl LO rfl rfl rfl rfl ?_)
      exact ret_pt rfl (H.r.setRow _) LO rfl rfl ⟨_, rfl, PO, below_row H.bel _ _ (by omega)⟩
end Eds
end Go.Proofs.YtkhdhiddhnmdkaaGreatDoor

namespace Go.Proofs.YtkhdhiddhnmdkaaGreatDoor
open Go.RowKit
namespace Eds
def encL (x y : Fp) : List UInt8 := if x.val % 2 = 1 then (leBytes y.val 32).set 31 (UInt8.ofNat (y.val / 256 ^ 31 + 128)) else leBytes y.val 32
theorem encL_len (x y : Fp) : (encL x y).length = 32 := by unfold encL; split <;> simp [leBytes]
theorem or128 (n : Nat) (h : n < 128) : bits .or .u8 (n : Int) 128 = ((n + 128 : Nat) : Int) := by
  have : ∀ m : Fin 128, bits .or .u8 ((m.val : Nat) : Int) 128 = ((m.val + 128 : Nat) : Int) := by decide +kernel
  exact this ⟨n, h⟩
theorem top_lt (y : Fp) : y.val / 256 ^ 31 < 128 := by
  have h := y.isLt
  have hp : pP < 256 ^ 31 * 128 := by decide
  exact Nat.div_lt_of_lt_mul (Nat.lt_trans h hp)
theorem top_is (y : Fp) : ((leBytes y.val 32).getD 31 0).toNat = y.val / 256 ^ 31 := by
  have h := top_lt y
  have e : (leBytes y.val 32).getD 31 0 = UInt8.ofNat (y.val / 256 ^ 31 % 256) := by
    rw [List.getD_eq_getElem?_getD]
    unfold leBytes
    rw [List.getElem?_map, List.getElem?_range (by decide)]
    rfl
  rw [e, UInt8.toNat_ofNat']
  omega
theorem qBytes {a : List Nat} {x : Fp} (ha : Lm a x.val) : QC 42 #[.agg (uvals a).toArray] (.agg (bvals (leBytes x.val 32)).toArray) := fun w => by
  have h := el_bytes_ok a w ha.len ha.small
  rw [ha.val] at h
  exact h
set_option maxHeartbeats 4000000 in
set_option maxRecDepth 100000 in
theorem bytes_pt (lp : List Nat) (X Y Z T : Fp) (w : World) (hc : Co lp X Y Z T) :
    Calls Tryz.prog 35 #[.agg (uvals lp).toArray] w fun e w' => e = .returned (.agg (bvals (encL (X * Fp.inv Z) (Y * Fp.inv Z))).toArray) ∧ Below w.heap.size w w' := by
  obtain ⟨px, py, pz, pt, rfl, Px, Py, Pz, Pt⟩ := hc.parts
  obtain ⟨l1, L1, C1⟩ := qInvert Pz
  obtain ⟨l2, L2, C2⟩ := qMul Py L1
  obtain ⟨l3, L3, C3⟩ := qMul Px L1
  have C4 := qBytes L2
  have HLP := hc.len
  generalize X * Fp.inv Z = x at *
  generalize Y * Fp.inv Z = y at *
  obtain ⟨ob, hob⟩ : ∃ ob, ob = decide (x.val % 2 = 1) := ⟨_, rfl⟩
  have C5 := qOdd L3 hob.symm
  have EO : Hid (encL x y = if ob then (leBytes y.val 32).set 31 (UInt8.ofNat (y.val / 256 ^ 31 + 128)) else leBytes y.val 32) := by
    show _ = _
    unfold encL
    rw [hob]
    simp
  have LB : (leBytes y.val 32).length = 32 := by simp [leBytes]
  have TI := top_is y
  have TL := top_lt y
  generalize y.val / 256 ^ 31 = t31 at *
  generalize leBytes y.val 32 = yb at *
  have LB2 : (yb.set 31 (UInt8.ofNat (t31 + 128))).length = 32 := by rw [List.length_set]; exact LB
  obtain ⟨yc, hyc⟩ : ∃ yc, yc = yb.set 31 (UInt8.ofNat (t31 + 128)) := ⟨_, rfl⟩
  have HYC := Lib.hid hyc
  rw [EO.out, ← hyc]
  rw [← hyc] at LB2
  clear hob hyc EO
  go_enter Tryz.func35, Tryz.ntmps35
  go_upto_region 1 with fail
  refine wp_gen (fun wx => Blk wx w.heap.size tQ (uvals (px ++ (py ++ (pz ++ pt)))) ∧ Blk wx (w.heap.size + 1) tB (List.replicate 32 (.int .u8 0)) ∧ Below w.heap.size w wx) ⟨(Blk.new w _ _).alloc _, Blk.new2 _ _ _ (List.replicate 32 (.int .u8 0)), below2 _ _ _⟩ ?_
  rintro w1 ⟨O1, O2, BW⟩
  have P2 : w1.rangeAt w.heap.size 10 (uvals pz) := rg (p := px ++ py) (l := pz) (q := pt) (by rw [List.append_assoc]; exact O1) (by rw [List.length_append, Px.len, Py.len])
  go_wp2_with (first | refine load_mid P2 Pz.len rfl rfl rfl ?_)
  refine (C1 w1).mono ?_
  rintro e w2 ⟨rfl, hb⟩
  replace O1 := O1.below hb O1.lt
  replace O2 := O2.below hb O2.lt
  replace BW := BW.trans (hb.mono BW.size)
  clear hb P2
  go_upto_region 2 with (refine new1 rfl rfl rfl rfl rfl L1.len (by go_simp) (by go_simp) (fun w3 R => ?_))
  have hb := R.2
  have O3 := R.1
  replace O1 := O1.below hb O1.lt
  have n3 : w.heap.size + 1 < w2.heap.size := O2.lt
  replace O2 := O2.below hb O2.lt
  replace BW := BW.trans (hb.mono BW.size)
  clear hb R
  generalize w2.heap.size = c3 at *
  go_simp
  have P2 : w3.rangeAt w.heap.size 5 (uvals py) := rg O1 Px.len
  go_wp2_with (first | refine load_mid P2 Py.len rfl rfl rfl ?_ | refine load_el2 O3 L1.len rfl rfl rfl ?_)
  refine (C2 w3).mono ?_
  rintro e w4 ⟨rfl, hb⟩
  replace O1 := O1.below hb O1.lt
  replace O2 := O2.below hb O2.lt
  replace O3 := O3.below hb O3.lt
  replace BW := BW.trans (hb.mono BW.size)
  clear hb P2
  go_wp2_with fail
  refine (C4 w4).mono ?_
  rintro e w5 ⟨rfl, hb⟩
  replace O1 := O1.below hb O1.lt
  replace O2 := O2.below hb O2.lt
  replace O3 := O3.below hb O3.lt
  replace BW := BW.trans (hb.mono BW.size)
  clear hb
  go_upto_region 3 with (refine new1B rfl rfl rfl rfl rfl LB (by go_simp) (by go_simp) (fun w6 R hb => ?_))
  replace O1 := O1.below hb O1.lt
  have n4 : w.heap.size + 1 < w5.heap.size := O2.lt
  replace O2 := O2.below hb O2.lt
  replace O3 := O3.below hb O3.lt
  replace BW := BW.trans (hb.mono BW.size)
  clear hb
  generalize w5.heap.size = c4 at *
  go_simp
  have P2 : w6.rangeAt w.heap.size 0 (uvals px) := rg0 O1
  go_wp2_with (first | refine load_mid P2 Px.len rfl rfl rfl ?_ | refine load_el2 O3 L1.len rfl rfl rfl ?_)
  refine (C3 w6).mono ?_
  rintro e w7 ⟨rfl, hb⟩
  replace O2 := O2.below hb O2.lt
  replace R := R.below hb R.lt
  replace BW := BW.trans (hb.mono BW.size)
  clear hb O1 O3 P2
  go_wp2_with fail
  refine (C5 w7).mono ?_
  rintro e w8 ⟨rfl, hb⟩
  replace O2 := O2.below hb O2.lt
  replace R := R.below hb R.lt
  replace BW := BW.trans (hb.mono BW.size)
  clear hb
  cases ob
  · go_wp2_with (first | refine load_ar R LB rfl rfl rfl ?_ | refine store_ar O2 rfl LB rfl rfl rfl rfl ?_)
    exact ret_blk rfl (O2.setRow _) Tryz.underlying48 rfl arr32_size (blen LB) rfl rfl ⟨rfl, below_row BW _ _ (by omega)⟩
  · have c0 := R.cell 31 _ (bvals_get yb 31 (by omega))
    rw [TI] at c0
    have f0 := R.free 31
    have N0 := R.bset 31 (t31 + 128) (by omega)
    have E0 := or128 t31 TL
    have h0 : t31 < 256 := by omega
    rw [← HYC.out] at N0
    have n2 : c4 ≠ w.heap.size + 1 := by omega
    have O2' := O2.far (Ne.symm n2) 31 (.int .u8 ((t31 + 128 : Nat) : Int))
    have BW' := below_set' BW c4 31 (.int .u8 ((t31 + 128 : Nat) : Int)) (by omega)
    go_upto_region 5 with fail
    try rw [E0]
    refine wp_gen (fun wx => Blk wx c4 tB (bvals yc) ∧ Blk wx (w.heap.size + 1) tB (List.replicate 32 (.int .u8 0)) ∧ Below w.heap.size w wx) ⟨N0, O2', BW'⟩ ?_
    clear O2 R BW c0 f0 N0 O2' BW' E0
    rintro w9 ⟨R, O2, BW⟩
    go_wp2_with (first | refine load_ar R LB2 rfl rfl rfl ?_ | refine store_ar O2 rfl LB2 rfl rfl rfl rfl ?_)
    exact ret_blk rfl (O2.setRow _) Tryz.underlying48 rfl arr32_size (blen LB2) rfl rfl ⟨rfl, below_row BW _ _ (by omega)⟩
end Eds
end Go.Proofs.YtkhdhiddhnmdkaaGreatDoor

namespace Go.Proofs.YtkhdhiddhnmdkaaGreatDoor
open Go.RowKit
namespace Eds
theorem blk_cells {b : Nat} {t : TypeId} : ∀ (vs old p q : List Value) (w : World), old.length = vs.length → Blk w b t (p ++ (old ++ q)) → Blk (w.setCells b p.length vs) b t (p ++ (vs ++ q))
  | [], [], _, _, _, _, h => h
  | v :: r, u :: s, p, q, w, hl, h => by
    have h1 := h.set p.length v
    have e : (p ++ (u :: s ++ q)).set p.length v = (p ++ [v]) ++ (s ++ q) := by simp
    rw [e] at h1
    have h2 := blk_cells r s (p ++ [v]) q _ (by simpa using hl) h1
    rw [List.length_append] at h2
    show Blk ((w.setCell ⟨b, p.length, none⟩ v).setCells b (p.length + 1) r) b t (p ++ (v :: r ++ q))
    simpa using h2
theorem cellsFar {b c : Nat} {t : TypeId} {cs : List Value} (hne : b ≠ c) : ∀ (vs : List Value) (o : Nat) (w : World), Blk w b t cs → Blk (w.setCells c o vs) b t cs
  | [], _, _, h => h
  | v :: r, o, _w, h => cellsFar hne r (o + 1) _ (h.far hne o v)
theorem belowCells {B c : Nat} {w0 : World} (hc : B ≤ c) : ∀ (vs : List Value) (o : Nat) (w : World), Below B w0 w → Below B w0 (w.setCells c o vs)
  | [], _, _, h => h
  | v :: r, o, _w, h => belowCells hc r (o + 1) _ (below_set' h c o v hc)
/-- a store into the middle of a block -/
theorem store_em {ops : Array Oper} {rest : List Oper} {o : Oper} {a : Act} {w : World} {Q : Exit → Act → World → Prop} {b k n : Nat} {t ty : TypeId} {x y : Operand} {p old l q : List Nat} (hb : Blk w b t (uvals (p ++ (old ++ q)))) (hk : p.length = k) (hold : old.length = n) (hl : l.length = n)
    (hsz : (Tryz.prog.info? ty).map (·.size) = some n) (hgd : o.guard = none) (ho : o.op = .store ty x y) (hx : a.eval x = .pointer (some ⟨b, k, none⟩)) (hy : a.eval y = .agg (uvals l).toArray)
    (h : wpList Tryz.prog ops Q rest (a.put o.dst undef) (w.setCells b k (uvals l))) : wpList Tryz.prog ops Q (o :: rest) a w := by
  refine wpList_store_mid hgd ty x y ho b k (uvals l).toArray hx hy (fun j hj => ?_) (by rw [hsz]; simp [uvals_len, hl]) (all_oneCell_toArray (uvals_one l)) h
  have hj' : j < l.length := by simpa [uvals_len] using hj
  have hlt : k + j < (uvals (p ++ (old ++ q))).length := by
    simp only [uvals_len, List.length_append]
    omega
  exact ⟨by rw [hb.cell (k + j) _ (List.getElem?_eq_getElem hlt)]; rfl, hb.free _⟩
theorem blk_put {b k : Nat} {t : TypeId} {p old l q : List Nat} {w : World} (hb : Blk w b t (uvals (p ++ (old ++ q)))) (hk : p.length = k) (hl : old.length = l.length) : Blk (w.setCells b k (uvals l)) b t (uvals (p ++ (l ++ q))) := by
  rw [uvals_append, uvals_append] at hb ⊢
  have := blk_cells (uvals l) (uvals old) (uvals p) (uvals q) w (by rw [uvals_len, uvals_len, hl]) hb
  rwa [uvals_len, hk] at this
theorem run_bldC (l : List Nat) (hl : l.length = 5) (w : World) : (Instr.build tC #[(0, .agg (uvals l).toArray)]).run Tryz.prog w = .ok (.agg (uvals (l ++ (zero5 ++ zero20))).toArray) w := by
  obtain ⟨a, b, c, d, e, rfl⟩ := five l hl
  exact run_build w tC _ _ (by kernel_rfl)
theorem bldC {ops : Array Oper} {rest : List Oper} {o : Oper} {a : Act} {w : World} {Q : Exit → Act → World → Prop} {x : Operand} {l : List Nat} (hl : l.length = 5) (hg : o.guard = none) (ho : o.op = .build tC #[(0, x)]) (hx : a.eval x = .agg (uvals l).toArray)
    (h : wpList Tryz.prog ops Q rest (a.put o.dst (.agg (uvals (l ++ (zero5 ++ zero20))).toArray)) w) : wpList Tryz.prog ops Q (o :: rest) a w :=
  wpList_plain hg fun K hK => by
    have hb := run_bldC l hl w
    unfold Oper.wp execOp
    simp only [ho]
    simp [hx, hb, Oper.upon]
    exact hK _ _ h
theorem rt_base : (rt (Ed.by' * Ed.by' - 1) (Ed.d * (Ed.by' * Ed.by') + 1)) = (Ed.bx, true) := by
  rw [Ed.across Ed.base_on, Ed.base_even]
set_option maxHeartbeats 4000000 in
set_option maxRecDepth 100000 in
theorem begin_ok (w : World) : Calls Tryz.prog 32 #[] w fun e w' => ∃ b lb, e = .returned (.pointer (some ⟨b, 0, none⟩)) ∧ CvE w' b lb ∧ PtV lb Ed.B ∧ Below w.heap.size w w' := by
  obtain ⟨l1, L1, C1⟩ := qSmall 121665 (by decide)
  obtain ⟨l2, L2, C2⟩ := qNeg L1
  obtain ⟨l3, L3, C3⟩ := qSmall 121666 (by decide)
  obtain ⟨l4, L4, C4⟩ := qInvert L3
  obtain ⟨ld, Ld, C5⟩ := qMul L2 L4
  rw [Ed.d_is] at Ld
  obtain ⟨lt, Lt, C6⟩ := qAdd Ld Ld
  obtain ⟨l7, L7, C7⟩ := qSmall 4 (by decide)
  obtain ⟨l8, L8, C8⟩ := qSmall 5 (by decide)
  obtain ⟨l9, L9, C9⟩ := qInvert L8
  obtain ⟨ly, Ly, C10⟩ := qMul L7 L9
  rw [Ed.base_y] at Ly
  clear L1 L2 L3 L4 L7 L8 L9
  go_enter Tryz.func32, Tryz.ntmps32
  go_wp2_with fail
  refine (C1 _).mono ?_
  rintro e w1 ⟨rfl, hb⟩
  have BW : Below w.heap.size w w1 := hb
  clear hb
  go_wp2_with fail
  refine (C2 _).mono ?_
  rintro e w2 ⟨rfl, hb⟩
  replace BW := BW.trans (hb.mono BW.size)
  clear hb
  go_wp2_with fail
  refine (C3 _).mono ?_
  rintro e w3 ⟨rfl, hb⟩
  replace BW := BW.trans (hb.mono BW.size)
  clear hb
  go_wp2_with fail
  refine (C4 _).mono ?_
  rintro e w4 ⟨rfl, hb⟩
  replace BW := BW.trans (hb.mono BW.size)
  clear hb
  go_wp2_with fail
  refine (C5 _).mono ?_
  rintro e w5 ⟨rfl, hb⟩
  replace BW := BW.trans (hb.mono BW.size)
  clear hb
  go_upto_region 2 with (refine bldC Ld.len rfl rfl rfl ?_)
  refine wp_gen (fun wx => Blk wx w5.heap.size tC (uvals (ld ++ (zero5 ++ zero20))) ∧ Below w.heap.size w wx) ⟨Blk.new w5 _ _, BW.alloc BW.size _⟩ ?_
  have hcb : w.heap.size ≤ w5.heap.size := BW.size
  clear BW
  rintro w6 ⟨OC, BW⟩
  generalize w5.heap.size = b at *
  have Dr : Below w6.heap.size w6 w6.drew := below_drewN (Below.refl _ _) 1
  have MC := OC.below Dr OC.lt
  (refine wp_region_quiet_tail (C := fun w' => Below w6.drew.heap.size w6.drew w') 10 (by kernel_rfl) (by kernel_rfl) (Below.refl _ _) ?_; simp only [List.take_succ_cons, List.take_zero, List.drop_succ_cons, List.drop_zero])
  ((with_reducible refine wpQuiet_step (fun K hK => ?_)); refine quiet_plainG (.pointer (some ⟨b, 0, none⟩)) (by first | rfl | simp [Region.wanted, yielded]) (fun w' hw' => by go_simp) ?_; go_simp; (with_reducible apply hK); clear hK K)
  ((with_reducible refine wpQuiet_step (fun K hK => ?_)); refine quiet_plainG (.pointer (some ⟨b, 0, none⟩)) (by first | rfl | simp [Region.wanted, yielded]) (fun w' hw' => by go_simp) ?_; go_simp; (with_reducible apply hK); clear hK K)
  ((with_reducible refine wpQuiet_step (fun K hK => ?_)); refine quiet_plainG (.pointer (some ⟨b, 0, none⟩)) (by first | rfl | simp [Region.wanted, yielded]) (fun w' hw' => by go_simp) ?_; go_simp; (with_reducible apply hK); clear hK K)
  ((with_reducible refine wpQuiet_step (fun K hK => ?_)); refine quiet_plainG (.pointer (some ⟨b, 0, none⟩)) (by first | rfl | simp [Region.wanted, yielded]) (fun w' hw' => by go_simp) ?_; go_simp; (with_reducible apply hK); clear hK K)
  ((with_reducible refine wpQuiet_step (fun K hK => ?_)); refine quiet_loadM (fun w' hw' => rg0 (MC.below hw' MC.lt)) Ld.len (by first | rfl | simp [Region.wanted, yielded]) rfl (by go_simp) ?_; go_simp; (with_reducible apply hK); clear hK K)
  ((with_reducible refine wpQuiet_step (fun K hK => ?_)); refine quiet_plainG (.pointer (some ⟨b, 0, none⟩)) (by first | rfl | simp [Region.wanted, yielded]) (fun w' hw' => by go_simp) ?_; go_simp; (with_reducible apply hK); clear hK K)
  ((with_reducible refine wpQuiet_step (fun K hK => ?_)); refine quiet_plainG (.pointer (some ⟨b, 0, none⟩)) (by first | rfl | simp [Region.wanted, yielded]) (fun w' hw' => by go_simp) ?_; go_simp; (with_reducible apply hK); clear hK K)
  ((with_reducible refine wpQuiet_step (fun K hK => ?_)); refine quiet_plainG (.pointer (some ⟨b, 0, none⟩)) (by first | rfl | simp [Region.wanted, yielded]) (fun w' hw' => by go_simp) ?_; go_simp; (with_reducible apply hK); clear hK K)
  ((with_reducible refine wpQuiet_step (fun K hK => ?_)); refine quiet_loadM (fun w' hw' => rg0 (MC.below hw' MC.lt)) Ld.len (by first | rfl | simp [Region.wanted, yielded]) rfl (by go_simp) ?_; go_simp; (with_reducible apply hK); clear hK K)
  ((with_reducible refine wpQuiet_step (fun K hK => ?_)); refine quiet_callG (.agg (uvals (lt)).toArray) 58 #[.agg (uvals ld).toArray, .agg (uvals ld).toArray] (by first | rfl | simp [Region.wanted, yielded]) (fun w' => by go_simp) (fun w' hw' => (C6 w').mono (by rintro e w'' ⟨rfl, hb⟩; exact ⟨rfl, hw'.trans (hb.mono hw'.size)⟩)) ?_; go_simp; (with_reducible apply hK); clear hK K)
  refine wpQuiet_nil ?_
  intro w7 hw7
  have HB := Dr.trans (hw7.mono Dr.size)
  replace OC := OC.below HB OC.lt
  replace BW := BW.trans (HB.mono BW.size)
  clear Dr MC hw7 HB
  go_simp
  go_upto_region 3 with (refine store_em (p := ld) (old := zero5) (l := lt) (q := zero20) (n := 5) OC Ld.len rfl Lt.len elem_size rfl rfl rfl rfl ?_)
  refine wp_gen (fun wx => Blk wx b tC (uvals (ld ++ (lt ++ zero20))) ∧ Below w.heap.size w wx) ⟨blk_put OC Ld.len Lt.len.symm, belowCells hcb _ _ _ BW⟩ ?_
  clear OC BW
  rintro w8 ⟨OC, BW⟩
  go_wp2_with fail
  refine (C7 _).mono ?_
  rintro e w1 ⟨rfl, hb⟩
  replace OC := OC.below hb OC.lt
  replace BW := BW.trans (hb.mono BW.size)
  clear hb
  go_wp2_with fail
  refine (C8 _).mono ?_
  rintro e w2 ⟨rfl, hb⟩
  replace OC := OC.below hb OC.lt
  replace BW := BW.trans (hb.mono BW.size)
  clear hb
  go_wp2_with fail
  refine (C9 _).mono ?_
  rintro e w3 ⟨rfl, hb⟩
  replace OC := OC.below hb OC.lt
  replace BW := BW.trans (hb.mono BW.size)
  clear hb
  go_wp2_with fail
  refine (C10 _).mono ?_
  rintro e w4 ⟨rfl, hb⟩
  replace OC := OC.below hb OC.lt
  replace BW := BW.trans (hb.mono BW.size)
  clear hb
  go_upto_region 4 with (refine new1 rfl rfl rfl rfl rfl Ly.len (by go_simp) (by go_simp) (fun w9 R => ?_))
  have hb := R.2
  have O2 := R.1
  replace OC := OC.below hb OC.lt
  replace BW := BW.trans (hb.mono BW.size)
  clear hb R
  generalize w4.heap.size = c2 at *
  go_simp
  have CC : CvE w9 b zero20 := ⟨⟨_, _, OC, Ld, Lt, rfl⟩⟩
  go_wp2_with (first | refine load_el2 O2 Ly.len rfl rfl rfl ?_)
  refine (across_ok b _ _ _ ly _ w9 CC Ly).mono ?_
  rintro e wa ⟨lx, rfl, Lx, hb⟩
  rw [rt_base] at Lx ⊢
  replace Lx : Lm lx Ed.bx.val := Lx
  replace OC := OC.below hb OC.lt
  replace O2 := O2.below hb O2.lt
  replace BW := BW.trans (hb.mono BW.size)
  clear hb CC
  go_upto_region 5 with (refine new1 rfl rfl rfl rfl rfl Lx.len (by go_simp) (by go_simp) (fun wb R => ?_))
  have hb := R.2
  have O3 := R.1
  replace OC := OC.below hb OC.lt
  replace O2 := O2.below hb O2.lt
  replace BW := BW.trans (hb.mono BW.size)
  clear hb R
  generalize wa.heap.size = c3 at *
  go_simp
  go_wp2_with (first | refine load_el2 O3 Lx.len rfl rfl rfl ?_ | refine load_el2 O2 Ly.len rfl rfl rfl ?_)
  refine (flat_ok lx ly Ed.bx Ed.by' wb Lx Ly).mono ?_
  rintro e wc ⟨lb, rfl, HB, hb⟩
  replace OC := OC.below hb OC.lt
  replace BW := BW.trans (hb.mono BW.size)
  clear hb O2 O3
  have LB := HB.len
  have O1 : Blk wc b tC (uvals ((ld ++ lt) ++ (zero20 ++ []))) := by rw [List.append_nil, List.append_assoc]; exact OC
  have LDT : (ld ++ lt).length = 10 := by rw [List.length_append, Ld.len, Lt.len]
  go_upto_region 6 with (refine store_em (p := ld ++ lt) (old := zero20) (l := lb) (q := []) (n := 20) O1 LDT rfl LB q_size rfl rfl rfl rfl ?_)
  have O9 := blk_put (l := lb) O1 LDT LB.symm
  rw [List.append_nil, List.append_assoc] at O9
  refine wp_gen (fun wx => Blk wx b tC (uvals (ld ++ (lt ++ lb))) ∧ Below w.heap.size w wx) ⟨O9, belowCells hcb _ _ _ BW⟩ ?_
  clear OC BW O9 O1
  rintro wd ⟨OC, BW⟩
  go_wp2_with fail
  go_ret
  exact ⟨b, lb, rfl, ⟨⟨_, _, OC, Ld, Lt, LB⟩⟩, ⟨_, _, _, _, HB, Ed.ex_flat rfl rfl⟩, BW⟩
end Eds
end Go.Proofs.YtkhdhiddhnmdkaaGreatDoor

namespace Go.Proofs.YtkhdhiddhnmdkaaGreatDoor
open Go.RowKit
namespace Eds
theorem inv_one : Fp.inv 1 = 1 := by
  have h := Fp.mul_inv Ed.one_ne
  generalize Fp.inv 1 = i at *
  grind
theorem mul_inv_one (x : Fp) : x * Fp.inv 1 = x := by
  rw [inv_one]; grind
/-- the top bit -/
def topL (l : List UInt8) : Bool := decide (128 ≤ (l.getD 31 0).toNat)
theorem and128 (n : Nat) (h : n < 256) : bits .and .u8 (n : Int) 128 = ((n / 128 * 128 : Nat) : Int) := by
  have : ∀ m : Fin 256, bits .and .u8 ((m.val : Nat) : Int) 128 = ((m.val / 128 * 128 : Nat) : Int) := by decide +kernel
  exact this ⟨n, h⟩
theorem and128_hi (n : Nat) (h : n < 256) (hn : 128 ≤ n) : bits .and .u8 (n : Int) 128 = 128 := by
  rw [and128 n h, show n / 128 = 1 by omega]; rfl
theorem and128_lo (n : Nat) (h : n < 256) (hn : ¬ 128 ≤ n) : bits .and .u8 (n : Int) 128 = 0 := by
  rw [and128 n h, show n / 128 = 0 by omega]; rfl
theorem ret_pt2 {fn : Func} {R : Ending → World → Prop} {a : Act} {w : World} {p q : Tmp} {b : Nat} {l : List Nat} {v : Value} (h : fn.results = #[.cell p tQ, .tmp q]) (hb : Blk w b tQ (uvals l)) (hl : l.length = 20)
    (hp : a.tmps.getD p undef = .pointer (some ⟨b, 0, none⟩)) (hq : a.tmps.getD q undef = v) (hd : a.defers = []) (hR : R (.returned (.tuple #[.agg (uvals l).toArray, v])) w) : bodyPost Tryz.prog fn R .ret a w := by
  refine bodyPost_ret ?_ hd hR
  have hp' : a.tmps[p]?.getD undef = .pointer (some ⟨b, 0, none⟩) := by simpa using hp
  have hq' : a.tmps[q]?.getD undef = v := by simpa using hq
  simp [results, h, hp', hq', asAddr, run_loadVar_row (P := Tryz.prog) w b tQ tQ (uvals l).toArray (0, 0) _ hb Tryz.underlying72 rfl (by rw [q_size]; simp [uvals_len, hl])]
end Eds
end Go.Proofs.YtkhdhiddhnmdkaaGreatDoor
