/-
The contracts of scalar's functions: Bits.
edsign: multiples of a point; a point's bytes.
edsign: a point's bytes.
-/
import Derived.Test.YtilccncddbgpbaaDoorPk43
import Derived.Test.YtilccncddbgpbaaDoorPk01
import Derived.Test.YtilccncddbgpbaaDoorPk41
namespace Go.Proofs.YtilccncddbgpbaaDoor
open Go.RowKit

def bitv (l : List UInt8) (i : Nat) : Bool := (((l.getD (i / 8) 0).toNat / 2 ^ (i % 8) % 2 : Nat) : Int) == 1
def bitvals (l : List UInt8) (n : Nat) : List Value := (List.range n).map (fun i => Value.bool (bitv l i)) ++ List.replicate (256 - n) (.bool false)
theorem bitvals_length (l : List UInt8) (n : Nat) (h : n ≤ 256) : (bitvals l n).length = 256 := by
  simp only [bitvals, List.length_append, List.length_map, List.length_range, List.length_replicate]; omega
theorem bitvals_zero (l : List UInt8) : bitvals l 0 = List.replicate 256 (.bool false) := rfl
theorem bitvals_old (l : List UInt8) (n : Nat) (h : n < 256) : (bitvals l n)[n]? = some (.bool false) := by
  unfold bitvals
  rw [List.getElem?_append_right (by simp), show 256 - n = (256 - (n + 1)) + 1 from by omega, List.replicate_succ]
  simp
theorem bitvals_set (l : List UInt8) (n : Nat) (h : n < 256) : (bitvals l n).set n (.bool (bitv l n)) = bitvals l (n + 1) := by
  unfold bitvals
  rw [List.set_append_right _ _ (by simp), show 256 - n = (256 - (n + 1)) + 1 from by omega, List.replicate_succ, List.range_succ]
  simp
theorem bitvals_get (l : List UInt8) (i : Nat) (h : i < 256) : (bitvals l 256)[i]? = some (.bool (bitv l i)) := by
  unfold bitvals
  rw [List.getElem?_append_left (by simp [h])]
  simp [h]
theorem boolInfo : (Tryd.prog.info? 4).map (fun i => (i.zero, i.size, i.bytes)) = some (some (.bool false), 1, 1) := by kernel_rfl
theorem bit_and (x k : Nat) (hx : x < 256) : bits .and .u8 ((x : Int) / 2 ^ k) 1 = ((x / 2 ^ k % 2 : Nat) : Int) := by
  have h := u8_and1 (x / 2 ^ k) (Nat.lt_of_le_of_lt (Nat.div_le_self ..) hx)
  rw [Int.natCast_ediv, Int.natCast_pow, show ((2 : Nat) : Int) = 2 from rfl] at h
  exact h

set_option maxHeartbeats 4000000 in
set_option maxRecDepth 100000 in
theorem bits_ok (l : List UInt8) (w : World) (hl : l.length = 32) :
    Calls Tryd.prog 42 #[ag l] w fun e w' => ∃ b, e = .returned (.slice (some ⟨b, 0, none⟩) 256 256) ∧ Blk w' b 4 (bitvals l 256) ∧ Below w.heap.size w w' := by
  obtain ⟨i0, hi, hz0, hz1, hz2⟩ := info_parts boolInfo
  have I := Lib.hid hi
  have I0 := Lib.hid hz0
  have I1 := Lib.hid hz1
  have I2 := Lib.hid hz2
  have LL := Lib.hid hl
  clear hi hz0 hz1 hz2
  show Calls Tryd.prog _ #[.agg (bvals l).toArray] w _
  have HA := Lib.hid (Blk.new w 22 (bvals l))
  have HB0 := Lib.hid ((Below.refl _ w).alloc (Nat.le_refl _) (.cells (bvals l).toArray 22))
  go_enter Tryd.func42, Tryd.ntmps42
  go_wp2_with (at_make; refine wpList_make_full _ rfl _ _ 89 rfl w.heap.size 4 i0 (.bool false) 1 Tryd.underlying89 I.out I0.out I1.out _ _ _ _ 256 rfl rfl (by omega) (by omega) (by rw [I2.out]; omega) (by unfold maxLen; omega) (by simp) ?_)
  intro w2 hown hgrow
  rw [made_one] at hown
  have hB2 := HB0.out.grown hgrow HB0.out.size (fun k hk => by cases hk)
  have HA2 := Lib.hid (show Blk w2 w.heap.size 22 (bvals l) from by
    unfold Blk; rw [hgrow.block w.heap.size HA.out.lt (by simp)]; exact HA.out)
  obtain ⟨hk2, hge⟩ := blk_of_own hown
  have HK := Lib.hid hk2
  have hbl := HA.out.lt
  clear hown hgrow hk2
  generalize w.heap.size + 1 = g at *
  go_wp2
  go_loopw [8] (fun vi wr => ∃ i : Nat, vi = .int .i64 i ∧ i ≤ 256 ∧ Hid (Blk wr g 4 (bitvals l i)) ∧ Hid (Blk wr w.heap.size 22 (bvals l)) ∧ Below w.heap.size w wr) (fun vi _ => 256 - (intOf vi).toNat)
  case atStart => exact ⟨0, rfl, by omega, by rw [bitvals_zero]; exact HK, HA2, hB2⟩
  case round =>
    obtain ⟨i, rfl, hi, km, ka, hBw⟩ := hrel
    by_cases hgo : i < 256
    · have c1 := ka.out.cell (i / 8) _ (bvals_get l (i / 8) (by omega))
      have c2 := km.out.cell i _ (bitvals_old l i hgo)
      have f2 := km.out.free i
      have hx := (l.getD (i / 8) 0).toNat_lt
      have BV : Hid (bitv l i = ((((l.getD (i / 8) 0).toNat / 2 ^ (i % 8) % 2 : Nat) : Int) == 1)) := rfl
      have e2 := bit_and (l.getD (i / 8) 0).toNat (i % 8) hx
      have NM := Lib.hid (bitvals_set l i hgo ▸ km.out.set i (.bool (bitv l i)))
      have hne : w.heap.size ≠ g := by have := ka.out.lt; intro e; subst e; exact absurd ka.out (by intro h; have := km.out; unfold Blk at *; rw [h] at this; simp at this)
      have NA := Lib.hid (ka.out.far hne i (.bool (bitv l i)))
      have hB3 := below_set' hBw g i (.bool (bitv l i)) hge
      generalize (l.getD (i / 8) 0).toNat = x at *
      clear km ka hBw
      go_wp2
      rw [show ((x : Int) / 2 ^ (i % 8) % 2 == 1) = bitv l i from by rw [BV.out]; simp]
      go_roundw
      case rel => exact ⟨i + 1, by go_num, by omega, NM, NA, hB3⟩
      case measure => simp [intOf]; omega
    · obtain rfl : i = 256 := by omega
      go_wp2
      go_ret
      exact ⟨g, rfl, km.out, hBw⟩
end Go.Proofs.YtilccncddbgpbaaDoor

namespace Go.Proofs.YtilccncddbgpbaaDoor
open Go.RowKit
namespace Eds
/-- four elements that are the point P -/
def PtV (l : List Nat) (P : Ed.Pt) : Prop := ∃ X Y Z T, Co l X Y Z T ∧ Ed.Ex X Y Z T P
theorem PtV.len {l : List Nat} {P : Ed.Pt} (h : PtV l P) : l.length = 20 := let ⟨_, _, _, _, h, _⟩ := h; h.len
abbrev CvE (w : World) (b : Nat) (lb : List Nat) : Prop := Cv w b Ed.d (Ed.d + Ed.d) lb
theorem add_pt {b : Nat} {lb l1 l2 : List Nat} {P Q : Ed.Pt} {w : World} (hc : CvE w b lb) (h1 : PtV l1 P) (h2 : PtV l2 Q) :
    Calls Tryd.prog 43 #[.pointer (some ⟨b, 0, none⟩), .agg (uvals l1).toArray, .agg (uvals l2).toArray] w fun e w' => ∃ l, e = .returned (.agg (uvals l).toArray) ∧ PtV l (Ed.add P Q) ∧ Below w.heap.size w w' := by
  obtain ⟨X1, Y1, Z1, T1, C1, E1⟩ := h1
  obtain ⟨X2, Y2, Z2, T2, C2, E2⟩ := h2
  refine (add_ok b _ _ lb l1 l2 _ _ _ _ _ _ _ _ w hc C1 C2).mono ?_
  rintro e w' ⟨l, rfl, hco, hb⟩
  exact ⟨l, rfl, ⟨_, _, _, _, hco, E1.add E2⟩, hb⟩
theorem Cv.farRow {w : World} {b c : Nat} {d d2 : Fp} {l : List Nat} (h : Cv w b d d2 l) (hne : b ≠ c) (r : Array Value) : Cv (w.setRow c r) b d d2 l := by
  obtain ⟨⟨ld, lt, H, a, c, e⟩⟩ := h
  exact ⟨⟨ld, lt, H.farRow hne _, a, c, e⟩⟩
theorem Cv.lt {w : World} {b : Nat} {d d2 : Fp} {l : List Nat} (h : Cv w b d d2 l) : b < w.heap.size := let ⟨⟨_, _, H, _⟩⟩ := h; H.lt
theorem blk_type {w : World} {b : Nat} {t t' : TypeId} {cs cs' : List Value} (h : Blk w b t cs) (h' : Blk w b t' cs') : t = t' := by
  unfold Blk at *
  rw [h] at h'
  simp at h'
  exact h'.2
/-- what stands in the loop -/
structure MI (w wr : World) (b c7 g : Nat) (lb lp : List Nat) (l : List UInt8) (lo : List Nat) : Prop where
  v : CvE wr b lb
  p : Blk wr (w.heap.size + 1) tQ (uvals lp)
  r : Blk wr (w.heap.size + 2) tQ (uvals zero20)
  o : Blk wr c7 tQ (uvals lo)
  bits : Blk wr g 4 (bitvals l 256)
  bel : Below w.heap.size w wr
theorem MI.step {w wr w2 : World} {b c7 g : Nat} {lb lp lo : List Nat} {l : List UInt8} (h : MI w wr b c7 g lb lp l lo) (hb : Below wr.heap.size wr w2) (lo2 : List Nat) (hbw : b < w.heap.size) (h7 : w.heap.size + 2 < c7) : MI w (w2.setRow c7 (uvals lo2).toArray) b c7 g lb lp l lo2 :=
  ⟨(h.v.below hb).farRow (by omega) _, (h.p.below hb h.p.lt).farRow (by omega) _, (h.r.below hb h.r.lt).farRow (by omega) _, (h.o.below hb h.o.lt).setRow _,
    (h.bits.below hb h.bits.lt).farRow (fun e => by
      have h1 := h.bits
      rw [e] at h1
      exact absurd (blk_type h1 h.o) (by decide)) _, below_row (h.bel.trans (hb.mono h.bel.size)) _ _ (by omega)⟩
theorem bitv_is {l : List UInt8} (hl : l.length = 32) (i : Nat) (hi : i < 256) : bitv l i = Ed.bitB (le8 l) i := by
  unfold bitv Ed.bitB
  rw [le8_bit' l i (by omega)]
  generalize le8 l / 2 ^ i % 2 = m
  by_cases h : m = 1
  · subst h; rfl
  · rw [beq_eq_false_iff_ne.2 h, beq_eq_false_iff_ne.2 (by omega)]
theorem smul_down (n : Nat) (P : Ed.Pt) (j : Nat) (hj : j < 256) (c : Bool) (hc : Ed.bitB n (255 - j) = c) : Ed.smul (n / 2 ^ (256 - (j + 1))) P = if c then Ed.add (Ed.add (Ed.smul (n / 2 ^ (256 - j)) P) (Ed.smul (n / 2 ^ (256 - j)) P)) P else Ed.add (Ed.smul (n / 2 ^ (256 - j)) P) (Ed.smul (n / 2 ^ (256 - j)) P) := by
  rw [Ed.bit_down n j hj, hc, Ed.smul_bit]
theorem smul_first (n : Nat) (P : Ed.Pt) (hn : n < 2 ^ 256) : Ed.smul (n / 2 ^ (256 - 0)) P = Ed.O := by
  rw [Nat.sub_zero, Nat.div_eq_of_lt hn]
  rfl
set_option maxHeartbeats 8000000 in
set_option maxRecDepth 100000 in
theorem mult_pt (b : Nat) (lb lp : List Nat) (P : Ed.Pt) (l : List UInt8) (w : World) (hl : l.length = 32) (hc : CvE w b lb) (hp : PtV lp P) :
    Calls Tryd.prog 20 #[.pointer (some ⟨b, 0, none⟩), .agg (bvals l).toArray, .agg (uvals lp).toArray] w fun e w' => ∃ lo, e = .returned (.agg (uvals lo).toArray) ∧ PtV lo (Ed.smul (le8 l) P) ∧ Below w.heap.size w w' := by
  have HBI := Lib.hid (fun i hi => bitv_is hl i hi)
  have hn : le8 l < 2 ^ 256 := by have := le8_lt l; rw [hl] at this; exact this
  have S0 := Lib.hid (smul_first (le8 l) P hn)
  have SD := Lib.hid (smul_down (le8 l) P)
  have SE : Hid (Ed.smul (le8 l / 2 ^ (256 - 256)) P = Ed.smul (le8 l) P) := by show _ = _; rw [Nat.sub_self, Nat.pow_zero, Nat.div_one]
  generalize le8 l = n at *
  have HLP := hp.len
  have hbw := hc.lt
  go_enter Tryd.func20, Tryd.ntmps20
  go_upto_region 1 with fail
  refine wp_gen (fun wx => Blk wx w.heap.size tB (bvals l) ∧ Blk wx (w.heap.size + 1) tQ (uvals lp) ∧ Blk wx (w.heap.size + 2) tQ (uvals zero20) ∧ Below w.heap.size w wx) ⟨((Blk.new w _ _).alloc _).alloc _, (Blk.new2 _ _ _ _).alloc _, Blk.new3 _ _ _ _ _, below3 _ _ _ _⟩ ?_
  rintro w1 ⟨O4, O5, O6, BW⟩
  go_wp2_with fail
  refine (zero_ok w1).mono ?_
  rintro e w2 ⟨lz, rfl, CZ, hb⟩
  have PZ : PtV lz (Ed.smul (n / 2 ^ (256 - 0)) P) := by rw [S0.out]; exact ⟨_, _, _, _, CZ, Ed.ex_O⟩
  have LZ := CZ.len
  replace O4 := O4.below hb O4.lt
  replace O5 := O5.below hb O5.lt
  replace O6 := O6.below hb O6.lt
  replace BW := BW.trans (hb.mono BW.size)
  clear hb
  go_upto_region 2 with (refine newQ rfl rfl rfl rfl rfl LZ (by go_simp) (by go_simp) (fun w3 R hb => ?_))
  have h7 : w.heap.size + 2 < w2.heap.size := O6.lt
  replace O4 := O4.below hb O4.lt
  replace O5 := O5.below hb O5.lt
  replace O6 := O6.below hb O6.lt
  replace BW := BW.trans (hb.mono BW.size)
  clear hb
  generalize w2.heap.size = c7 at *
  go_simp
  go_wp2_with (first | refine load_ar O4 hl rfl rfl rfl ?_)
  refine (bits_ok l w3 hl).mono ?_
  rintro e w4 ⟨g, rfl, OG, hb⟩
  have H0 : MI w w4 b c7 g lb lp l lz := ⟨hc.below (BW.trans (hb.mono BW.size)), O5.below hb O5.lt, O6.below hb O6.lt, R.below hb R.lt, OG, BW.trans (hb.mono BW.size)⟩
  clear O4 O5 O6 BW R hb OG hc
  go_wp2_with fail
  go_loopw [9] (fun v9 wr => ∃ j : Nat, j ≤ 256 ∧ v9 = .int .i64 (255 - (j : Int)) ∧ ∃ lo, MI w wr b c7 g lb lp l lo ∧ PtV lo (Ed.smul (n / 2 ^ (256 - j)) P)) (fun v9 _ => (intOf v9 + 1).toNat)
  case atStart => exact ⟨0, by omega, rfl, lz, H0, PZ⟩
  case round =>
    clear H0 PZ CZ LZ
    obtain ⟨j, hj, rfl, lo, H, PO⟩ := hrel
    by_cases hgo : j < 256
    · obtain ⟨i, hi⟩ : ∃ i, i = 255 - j := ⟨_, rfl⟩
      have hi' : (255 : Int) - (j : Int) = (i : Nat) := by omega
      rw [hi']
      have hbit := HBI.out i (by omega)
      have hget := bitvals_get l i (by omega)
      have hsd := Lib.hid (SD.out j hgo (bitv l i) (by rw [← hi, ← hbit]))
      have HI : Hid (i = 255 - j) := hi
      have HG : Hid (j < 256) := hgo
      have hib : i < 256 := by omega
      have LO := PO.len
      clear hi hi' hgo hj hbit
      go_upto_region 7 with (first | refine load_qt H.o LO rfl rfl rfl ?_ | (go_at_call 43; refine (add_pt H.v PO PO).mono ?_; rintro e w5 ⟨lo2, rfl, PO2, hb⟩; have H2 := H.step hb lo2 hbw h7; have LO2 := PO2.len; have OB := H.o.below hb H.o.lt) | refine store_pt OB LO LO2 rfl rfl rfl rfl ?_)
      refine wp_gen (fun wx => MI w wx b c7 g lb lp l lo2) H2 ?_
      clear H H2 OB hb
      rintro w6 H
      have hcell := H.bits.cell i _ hget
      have hp' := H.p
      cases hv : bitv l i
      · rw [hv] at hcell hsd
        go_wp2_with fail
        go_roundw
        case rel =>
          have hi := HI.out
          have hgo := HG.out
          exact ⟨j + 1, by omega, elval_int (by omega), lo2, H, by rw [hsd.out]; exact PO2⟩
        case measure =>
          have hi := HI.out
          simp [intOf] <;> omega
      · rw [hv] at hcell hsd
        go_wp2_with (first | refine load_qt H.o LO2 rfl rfl rfl ?_ | refine load_qt hp' HLP rfl rfl rfl ?_ | (go_at_call 43; refine (add_pt H.v PO2 hp).mono ?_; rintro e w7 ⟨lo3, rfl, PO3, hb⟩; have H2 := H.step hb lo3 hbw h7; have LO3 := PO3.len; have OB := H.o.below hb H.o.lt) | refine store_pt OB LO2 LO3 rfl rfl rfl rfl ?_)
        go_roundw
        case rel =>
          have hi := HI.out
          have hgo := HG.out
          exact ⟨j + 1, by omega, elval_int (by omega), lo3, H2, by rw [hsd.out]; exact PO3⟩
        case measure =>
          have hi := HI.out
          simp [intOf] <;> omega
    · obtain rfl : j = 256 := by omega
      have LO := PO.len
      rw [SE.out] at PO
      clear hgo hj
      go_wp2_with (first | refine load_qt H.o LO rfl rfl rfl ?_ | refine store_pt H.r rfl LO rfl rfl rfl rfl ?_)
      exact ret_pt rfl (H.r.setRow _) LO rfl rfl ⟨_, rfl, PO, below_row H.bel _ _ (by omega)⟩
end Eds
end Go.Proofs.YtilccncddbgpbaaDoor

namespace Go.Proofs.YtilccncddbgpbaaDoor
open Go.RowKit
namespace Eds
def encL (x y : Fp) : List UInt8 := if x.val % 2 = 1 then (leBytes y.val 32).set 31 (UInt8.ofNat (y.val / 256 ^ 31 + 128)) else leBytes y.val 32
theorem encL_len (x y : Fp) : (encL x y).length = 32 := by unfold encL; split <;> simp [leBytes]
theorem or128 (n : Nat) (h : n < 128) : bits .or .u8 (n : Int) 128 = ((n + 128 : Nat) : Int) := by
  have : ∀ m : Fin 128, bits .or .u8 ((m.val : Nat) : Int) 128 = ((m.val + 128 : Nat) : Int) := by decide +kernel
  exact this ⟨n, h⟩
theorem top_lt (y : Fp) : y.val / 256 ^ 31 < 128 := by
  have h := y.isLt
  have hp : pP < 256 ^ 31 * 128 := by decide
  exact Nat.div_lt_of_lt_mul (Nat.lt_trans h hp)
theorem top_is (y : Fp) : ((leBytes y.val 32).getD 31 0).toNat = y.val / 256 ^ 31 := by
  have h := top_lt y
  have e : (leBytes y.val 32).getD 31 0 = UInt8.ofNat (y.val / 256 ^ 31 % 256) := by
    rw [List.getD_eq_getElem?_getD]
    unfold leBytes
    rw [List.getElem?_map, List.getElem?_range (by decide)]
    rfl
  rw [e, UInt8.toNat_ofNat']
  omega
theorem qBytes {a : List Nat} {x : Fp} (ha : Lm a x.val) : QC 13 #[.agg (uvals a).toArray] (.agg (bvals (leBytes x.val 32)).toArray) := fun w => by
  have h := el_bytes_ok a w ha.len ha.small
  rw [ha.val] at h
  exact h
set_option maxHeartbeats 4000000 in
set_option maxRecDepth 100000 in
theorem bytes_pt (lp : List Nat) (X Y Z T : Fp) (w : World) (hc : Co lp X Y Z T) :
    Calls Tryd.prog 22 #[.agg (uvals lp).toArray] w fun e w' => e = .returned (.agg (bvals (encL (X * Fp.inv Z) (Y * Fp.inv Z))).toArray) ∧ Below w.heap.size w w' := by
  obtain ⟨px, py, pz, pt, rfl, Px, Py, Pz, Pt⟩ := hc.parts
  obtain ⟨l1, L1, C1⟩ := qInvert Pz
  obtain ⟨l2, L2, C2⟩ := qMul Py L1
  obtain ⟨l3, L3, C3⟩ := qMul Px L1
  have C4 := qBytes L2
  have HLP := hc.len
  generalize X * Fp.inv Z = x at *
  generalize Y * Fp.inv Z = y at *
  obtain ⟨ob, hob⟩ : ∃ ob, ob = decide (x.val % 2 = 1) := ⟨_, rfl⟩
  have C5 := qOdd L3 hob.symm
  have EO : Hid (encL x y = if ob then (leBytes y.val 32).set 31 (UInt8.ofNat (y.val / 256 ^ 31 + 128)) else leBytes y.val 32) := by
    show _ = _
    unfold encL
    rw [hob]
    simp
  have LB : (leBytes y.val 32).length = 32 := by simp [leBytes]
  have TI := top_is y
  have TL := top_lt y
  generalize y.val / 256 ^ 31 = t31 at *
  generalize leBytes y.val 32 = yb at *
  have LB2 : (yb.set 31 (UInt8.ofNat (t31 + 128))).length = 32 := by rw [List.length_set]; exact LB
  obtain ⟨yc, hyc⟩ : ∃ yc, yc = yb.set 31 (UInt8.ofNat (t31 + 128)) := ⟨_, rfl⟩
  have HYC := Lib.hid hyc
  rw [EO.out, ← hyc]
  rw [← hyc] at LB2
  clear hob hyc EO
  go_enter Tryd.func22, Tryd.ntmps22
  go_upto_region 1 with fail
  refine wp_gen (fun wx => Blk wx w.heap.size tQ (uvals (px ++ (py ++ (pz ++ pt)))) ∧ Blk wx (w.heap.size + 1) tB (List.replicate 32 (.int .u8 0)) ∧ Below w.heap.size w wx) ⟨(Blk.new w _ _).alloc _, Blk.new2 _ _ _ (List.replicate 32 (.int .u8 0)), below2 _ _ _⟩ ?_
  rintro w1 ⟨O1, O2, BW⟩
  have P2 : w1.rangeAt w.heap.size 10 (uvals pz) := rg (p := px ++ py) (l := pz) (q := pt) (by rw [List.append_assoc]; exact O1) (by rw [List.length_append, Px.len, Py.len])
  go_wp2_with (first | refine load_mid P2 Pz.len rfl rfl rfl ?_)
  refine (C1 w1).mono ?_
  rintro e w2 ⟨rfl, hb⟩
  replace O1 := O1.below hb O1.lt
  replace O2 := O2.below hb O2.lt
  replace BW := BW.trans (hb.mono BW.size)
  clear hb P2
  go_upto_region 2 with (refine new1 rfl rfl rfl rfl rfl L1.len (by go_simp) (by go_simp) (fun w3 R => ?_))
  have hb := R.2
  have O3 := R.1
  replace O1 := O1.below hb O1.lt
  have n3 : w.heap.size + 1 < w2.heap.size := O2.lt
  replace O2 := O2.below hb O2.lt
  replace BW := BW.trans (hb.mono BW.size)
  clear hb R
  generalize w2.heap.size = c3 at *
  go_simp
  have P2 : w3.rangeAt w.heap.size 5 (uvals py) := rg O1 Px.len
  go_wp2_with (first | refine load_mid P2 Py.len rfl rfl rfl ?_ | refine load_el2 O3 L1.len rfl rfl rfl ?_)
  refine (C2 w3).mono ?_
  rintro e w4 ⟨rfl, hb⟩
  replace O1 := O1.below hb O1.lt
  replace O2 := O2.below hb O2.lt
  replace O3 := O3.below hb O3.lt
  replace BW := BW.trans (hb.mono BW.size)
  clear hb P2
  go_wp2_with fail
  refine (C4 w4).mono ?_
  rintro e w5 ⟨rfl, hb⟩
  replace O1 := O1.below hb O1.lt
  replace O2 := O2.below hb O2.lt
  replace O3 := O3.below hb O3.lt
  replace BW := BW.trans (hb.mono BW.size)
  clear hb
  go_upto_region 3 with (refine new1B rfl rfl rfl rfl rfl LB (by go_simp) (by go_simp) (fun w6 R hb => ?_))
  replace O1 := O1.below hb O1.lt
  have n4 : w.heap.size + 1 < w5.heap.size := O2.lt
  replace O2 := O2.below hb O2.lt
  replace O3 := O3.below hb O3.lt
  replace BW := BW.trans (hb.mono BW.size)
  clear hb
  generalize w5.heap.size = c4 at *
  go_simp
  have P2 : w6.rangeAt w.heap.size 0 (uvals px) := rg0 O1
  go_wp2_with (first | refine load_mid P2 Px.len rfl rfl rfl ?_ | refine load_el2 O3 L1.len rfl rfl rfl ?_)
  refine (C3 w6).mono ?_
  rintro e w7 ⟨rfl, hb⟩
  replace O2 := O2.below hb O2.lt
  replace R := R.below hb R.lt
  replace BW := BW.trans (hb.mono BW.size)
  clear hb O1 O3 P2
  go_wp2_with fail
  refine (C5 w7).mono ?_
  rintro e w8 ⟨rfl, hb⟩
  replace O2 := O2.below hb O2.lt
  replace R := R.below hb R.lt
  replace BW := BW.trans (hb.mono BW.size)
  clear hb
  cases ob
  · go_wp2_with (first | refine load_ar R LB rfl rfl rfl ?_ | refine store_ar O2 rfl LB rfl rfl rfl rfl ?_)
    exact ret_blk rfl (O2.setRow _) Tryd.underlying22 rfl arr32_size (blen LB) rfl rfl ⟨rfl, below_row BW _ _ (by omega)⟩
  · have c0 := R.cell 31 _ (bvals_get yb 31 (by omega))
    rw [TI] at c0
    have f0 := R.free 31
    have N0 := R.bset 31 (t31 + 128) (by omega)
    have E0 := or128 t31 TL
    have h0 : t31 < 256 := by omega
    rw [← HYC.out] at N0
    have n2 : c4 ≠ w.heap.size + 1 := by omega
    have O2' := O2.far (Ne.symm n2) 31 (.int .u8 ((t31 + 128 : Nat) : Int))
    have BW' := below_set' BW c4 31 (.int .u8 ((t31 + 128 : Nat) : Int)) (by omega)
    go_upto_region 5 with fail
    try rw [E0]
    refine wp_gen (fun wx => Blk wx c4 tB (bvals yc) ∧ Blk wx (w.heap.size + 1) tB (List.replicate 32 (.int .u8 0)) ∧ Below w.heap.size w wx) ⟨N0, O2', BW'⟩ ?_
    clear O2 R BW c0 f0 N0 O2' BW' E0
    rintro w9 ⟨R, O2, BW⟩
    go_wp2_with (first | refine load_ar R LB2 rfl rfl rfl ?_ | refine store_ar O2 rfl LB2 rfl rfl rfl rfl ?_)
    exact ret_blk rfl (O2.setRow _) Tryd.underlying22 rfl arr32_size (blen LB2) rfl rfl ⟨rfl, below_row BW _ _ (by omega)⟩
end Eds
end Go.Proofs.YtilccncddbgpbaaDoor
