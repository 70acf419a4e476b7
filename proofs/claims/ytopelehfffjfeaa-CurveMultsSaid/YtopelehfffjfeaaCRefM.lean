/-
The document's Mult, walked.
-/
import Derived.Test.YtopelehfffjfeaaCRef
import Derived.Test.YtopelehfffjfeaaCClamp
import Derived.Test.YtopelehfffjfeaaCWalk
import Derived.Laws.IdiomStrings
namespace Go.Proofs.Ytopelehfffjfeaa
open Go.RowKit

/-- A converted string's bytes. -/
def SB (w : World) (b : Nat) (l : List UInt8) : Prop := ∃ pad : List Value, w.heap[b]? = some (.cells (bvals l ++ pad).toArray 5 ((bvals l ++ pad).length, (bvals l ++ pad).length + 1))
theorem SB.lt {w : World} {b : Nat} {l : List UInt8} (h : SB w b l) : b < w.heap.size := by
  obtain ⟨pad, h⟩ := h
  exact (Array.getElem?_eq_some_iff.1 h).1
theorem SB.below {w w' : World} {b B : Nat} {l : List UInt8} (h : SB w b l) (hb : Below B w w') (hlt : b < B) : SB w' b l := by
  obtain ⟨pad, h⟩ := h
  refine ⟨pad, ?_⟩
  rw [hb.block b hlt]
  exact h
theorem SB.cell {w : World} {b : Nat} {l : List UInt8} (h : SB w b l) (i : Nat) (hi : i < l.length) : w.cell? ⟨b, i, none⟩ = some (.int .u8 ((l.getD i 0).toNat : Nat)) := by
  obtain ⟨pad, h⟩ := h
  have e : (bvals l ++ pad)[i]? = some (.int .u8 ((l.getD i 0).toNat : Nat)) := by
    rw [List.getElem?_append_left (show i < (bvals l).length by rw [bvals_len]; exact hi)]
    exact bvals_get l i hi
  simp only [World.cell?, h, Option.isSome_none, Bool.false_eq_true, if_false, List.getElem?_toArray]
  exact e
theorem SB.free {w : World} {b : Nat} {l : List UInt8} (h : SB w b l) (i : Nat) (hi : i < l.length) : w.frozen? ⟨b, i, none⟩ = false := by
  obtain ⟨pad, h⟩ := h
  have hl : i < (bvals l ++ pad).length := by rw [List.length_append, bvals_len]; omega
  generalize bvals l ++ pad = cs at *
  simp [World.frozen?, h]
  omega
theorem SB.bset {w : World} {b : Nat} {l : List UInt8} (h : SB w b l) (i n : Nat) (hi : i < l.length) (hn : n < 256) : SB (w.setCell ⟨b, i, none⟩ (.int .u8 (n : Nat))) b (l.set i (UInt8.ofNat n)) := by
  obtain ⟨pad, h⟩ := h
  refine ⟨pad, ?_⟩
  have e : bvals (l.set i (UInt8.ofNat n)) ++ pad = (bvals l ++ pad).set i (.int .u8 (n : Nat)) := by
    rw [List.set_append_left _ _ (by rw [bvals_len]; exact hi)]
    congr 1
    unfold bvals
    rw [List.map_set, UInt8.toNat_ofNat', Nat.mod_eq_of_lt hn]
  rw [e, List.length_set]
  generalize bvals l ++ pad = cs at *
  simp [World.setCell, Array.getElem?_modify, h]
theorem conv_strb (w : World) (l : List UInt8) : ∃ cap w', l.length ≤ cap ∧ (convert 9 35 (.string ⟨l.toArray⟩)).run Try.prog w = .ok (.slice (some ⟨w.heap.size, 0, none⟩) l.length cap) w' ∧ SB w' w.heap.size l ∧ Below w.heap.size w w' := by
  have h := run_bytes_of_string (P := Try.prog) w 9 35 5 ⟨l.toArray⟩ Try.underlying9 Try.underlying35 Try.underlying5
  have hsz : (⟨l.toArray⟩ : ByteArray).size = l.length := rfl
  rw [hsz] at h
  have hge := grownCap_ge w l.length 0 5
  generalize grownCap w l.length 0 5 = cap at *
  have e : bytesRow ⟨l.toArray⟩ cap = (bvals l ++ List.replicate (cap - l.length) (Value.int .u8 0)).toArray := by
    unfold bytesRow bvals
    rw [hsz]
    simp
  rw [e] at h
  refine ⟨_, _, hge, h, ⟨List.replicate (cap - l.length) (Value.int .u8 0), ?_⟩, ?_⟩
  · have := (MapKept.heap_alloc w.drew (.cells (bvals l ++ List.replicate (cap - l.length) (Value.int .u8 0)).toArray 5 ((bvals l ++ List.replicate (cap - l.length) (Value.int .u8 0)).length, (bvals l ++ List.replicate (cap - l.length) (Value.int .u8 0)).length + 1))).1
    exact this
  · exact Below.alloc (below_drewN (Below.refl _ _) 1) (Nat.le_refl _) _
theorem conv_sl {ops : Array Oper} {rest : List Oper} {o : Oper} {a : Act} {w w1 : World} {Q : Exit → Act → World → Prop} {x : Operand} {s : ByteArray} {v : Value} (hcv : (convert 9 35 (.string s)).run Try.prog w = .ok v w1)
    (hg : o.guard = none) (ho : o.op = .convert 9 35 x) (hx : a.eval x = .string s) (h : wpList Try.prog ops Q rest (a.put o.dst v) w1) : wpList Try.prog ops Q (o :: rest) a w :=
  wpList_plain hg fun K hK => by
    unfold Oper.wp execOp
    simp only [ho, hx, Sem.run_bind, hcv, Result.andThen_ok, Sem.run_pure, Oper.upon]
    exact hK _ _ h
/-- The loop's relation. -/
structure RL (w0 wr : World) (c : Nat) (ks : List UInt8) (vu : Value) (u : Fp) (s : Ed.St) (v1 v2 v3 v4 : Value) : Prop where
  S : SB wr c ks
  nu : Num wr vu u.val
  na : Num wr v1 s.X1.val
  nb : Num wr v2 s.Z1.val
  nc : Num wr v3 s.X2.val
  nd : Num wr v4 s.Z2.val
  bel : Below w0.heap.size w0 wr
  lo : w0.heap.size ≤ c
theorem RL.below {w0 wr w' : World} {c : Nat} {ks : List UInt8} {vu : Value} {u : Fp} {s : Ed.St} {v1 v2 v3 v4 : Value} (h : RL w0 wr c ks vu u s v1 v2 v3 v4) (hb : Below wr.heap.size wr w') : RL w0 w' c ks vu u s v1 v2 v3 v4 :=
  ⟨h.S.below hb h.S.lt, h.nu.below hb, h.na.below hb, h.nb.below hb, h.nc.below hb, h.nd.below hb, h.bel.trans (hb.mono h.bel.size), h.lo⟩
set_option maxHeartbeats 8000000 in
set_option maxRecDepth 100000 in
theorem rmult_ok (ls lp : List UInt8) (hl : ls.length = 32) (w : World) :
    Calls Try.prog 41 #[.string ⟨ls.toArray⟩, .string ⟨lp.toArray⟩] w fun e w' => e = .returned (.string ⟨(leBytes (Ed.multF (KN ls) (fpOf ⟨lp.toArray⟩)).val 32).toArray⟩) ∧ Below w.heap.size w w' := by
  have KO := KN_ok hl
  obtain ⟨X, hX⟩ : ∃ X, X = Ed.refF (KN ls) (fpOf ⟨lp.toArray⟩) := ⟨_, rfl⟩
  rw [← Ed.ref_eq KO.2.2, ← hX]
  have HX := Lib.hid hX
  have HL := Lib.hid hl
  clear hl hX KO
  obtain ⟨cap, w1, hcap, hcv, SK, BW⟩ := conv_strb w ls
  rw [HL.out] at hcap hcv
  obtain ⟨sp, hsp⟩ : ∃ s : ByteArray, s = ⟨lp.toArray⟩ := ⟨_, rfl⟩
  obtain ⟨sl, hsl⟩ : ∃ s : ByteArray, s = ⟨ls.toArray⟩ := ⟨_, rfl⟩
  rw [← hsp] at HX ⊢
  rw [← hsl] at hcv ⊢
  clear hsp hsl
  have h0 := SK.cell 0 (by rw [HL.out]; omega)
  have f0 := SK.free 0 (by rw [HL.out]; omega)
  have y0 := (ls.getD 0 0).toNat_lt
  have N0 := SK.bset 0 ((ls.getD 0 0).toNat / 8 * 8) (by rw [HL.out]; omega) (by omega)
  generalize hx0 : (ls.getD 0 0).toNat = x0 at *
  go_enter Try.func41, Try.ntmps41
  go_upto_region 2 with (refine conv_sl hcv rfl rfl rfl ?_)
  go_upto_region 3 with fail
  try rw [Int.natCast_ediv]
  refine wp_gen (fun wx => SB wx w.heap.size (ls.set 0 (UInt8.ofNat (x0 / 8 * 8))) ∧ Below w.heap.size w wx) ⟨N0, below_set' BW _ _ _ (Nat.le_refl _)⟩ ?_
  clear h0 f0 N0 SK BW
  rintro w2 ⟨SK, BW⟩
  have e31 : (ls.set 0 (UInt8.ofNat (x0 / 8 * 8))).getD 31 0 = ls.getD 31 0 := by rw [List.getD_eq_getElem?_getD, List.getElem?_set_ne (by omega), ← List.getD_eq_getElem?_getD]
  have h31 := SK.cell 31 (by rw [List.length_set, HL.out]; omega)
  have f31 := SK.free 31 (by rw [List.length_set, HL.out]; omega)
  rw [e31] at h31
  have y31 := (ls.getD 31 0).toNat_lt
  have N0 := SK.bset 31 ((ls.getD 31 0).toNat % 64 + 64) (by rw [List.length_set, HL.out]; omega) (by omega)
  have EK : Hid ((ls.set 0 (UInt8.ofNat (x0 / 8 * 8))).set 31 (UInt8.ofNat ((ls.getD 31 0).toNat % 64 + 64)) = kc ls) := by rw [← hx0]; rfl
  rw [EK.out] at N0
  clear EK e31 hx0
  generalize (ls.getD 31 0).toNat = x31 at *
  go_upto_region 4 with fail
  refine wp_gen (fun wx => SB wx w.heap.size (kc ls) ∧ Below w.heap.size w wx) ⟨N0, below_set' BW _ _ _ (Nat.le_refl _)⟩ ?_
  clear h31 f31 N0 SK BW y31 y0
  rintro w3 ⟨SK, BW⟩
  have HLE : Hid (∀ i, i < 256 → ((kc ls).getD (i / 8) 0).toNat / 2 ^ (i % 8) % 2 = KN ls / 2 ^ i % 2) := fun i hi => le8_bit' (kc ls) i (by rw [kc_len, HL.out]; omega)
  have KB : Hid ((kc ls).length = 32) := (kc_len ls).trans HL.out
  generalize kc ls = ks at *
  generalize KN ls = K at *
  go_wp2_with fail
  refine (rfOf sp w3).mono ?_
  rintro e w4 ⟨vx, rfl, NX, hb⟩
  replace SK := SK.below hb SK.lt
  replace BW := BW.trans (hb.mono BW.size)
  clear hb
  generalize fpOf sp = u at *
  replace NX := Lib.hid NX
  go_wp2_with fail
  refine (rfSmall1 w4).mono ?_
  rintro e w5 ⟨v1, rfl, N1, hb⟩
  replace SK := SK.below hb SK.lt
  replace BW := BW.trans (hb.mono BW.size)
  replace NX := Lib.hid (NX.out.below hb)
  clear hb
  replace N1 := Lib.hid N1
  go_wp2_with fail
  refine (rfSmall0 w5).mono ?_
  rintro e w6 ⟨v2, rfl, N2, hb⟩
  replace SK := SK.below hb SK.lt
  replace BW := BW.trans (hb.mono BW.size)
  replace NX := Lib.hid (NX.out.below hb)
  replace N1 := Lib.hid (N1.out.below hb)
  clear hb
  replace N2 := Lib.hid N2
  go_wp2_with fail
  refine (rfSmall1 w6).mono ?_
  rintro e w7 ⟨v4, rfl, N4, hb⟩
  have H0 : RL w w7 w.heap.size ks vx u (Ed.rlad u K 0) v1 v2 vx v4 := ⟨SK.below hb SK.lt, NX.out.below hb, N1.out.below hb, N2.out.below hb, NX.out.below hb, N4, BW.trans (hb.mono BW.size), Nat.le_refl _⟩
  clear SK NX N1 N2 N4 BW hb
  go_wp2_with fail
  go_loopw [7, 8, 9, 10, 11] (fun v7 v8 v9 v10 v11 wr => ∃ j : Nat, j ≤ 256 ∧ v11 = .int .i64 (255 - (j : Int)) ∧ RL w wr w.heap.size ks vx u (Ed.rlad u K j) v7 v8 v9 v10) (fun _ _ _ _ v11 _ => (intOf v11 + 1).toNat)
  case atStart => exact ⟨0, by omega, rfl, H0⟩
  case round =>
    clear H0
    obtain ⟨j, hj, rfl, H⟩ := hrel
    by_cases hgo : j < 256
    · obtain ⟨i, hi⟩ : ∃ i, i = 255 - j := ⟨_, rfl⟩
      have hi' : (255 : Int) - (j : Int) = (i : Nat) := by omega
      rw [hi']
      have hb := HLE.out i (by omega)
      have h8 : i % 8 < 8 := Nat.mod_lt _ (by decide)
      have hand : (((ks.getD (i / 8) 0).toNat : Int) / 2 ^ (i % 8)).tmod 2 = ((K / 2 ^ i % 2 : Nat) : Int) := by
        rw [← hb, Int.natCast_emod, Int.natCast_ediv, Int.natCast_pow, Int.tmod_eq_emod_of_nonneg (Int.ediv_nonneg (Int.natCast_nonneg _) (Int.pow_nonneg (by decide)))]
        rfl
      have hs : Hid (Ed.rlad u K (j + 1) = Ed.rstep u (Ed.bitB K i) (Ed.rlad u K j)) := by rw [hi]; rfl
      have HI : Hid (i = 255 - j) := hi
      have HG : Hid (j < 256) := hgo
      have hib : i < 256 := by omega
      clear hi hi' hgo hj hb
      go_wp2_with fail
      refine (rsum_ok H.nu H.na H.nb H.nc H.nd).mono ?_
      rintro e w8 ⟨xs, zs, rfl, NX, NZ, hb⟩
      replace H := H.below hb
      replace NX := Lib.hid NX
      replace NZ := Lib.hid NZ
      clear hb
      have hc := H.S.cell (i / 8) (by rw [KB.out]; omega)
      generalize (ks.getD (i / 8) 0).toNat = y at *
      have h2 : K / 2 ^ i % 2 < 2 := Nat.mod_lt _ (by decide)
      obtain hv | hv : K / 2 ^ i % 2 = 0 ∨ K / 2 ^ i % 2 = 1 := by omega
      · have hbv : Hid (Ed.bitB K i = false) := by show (K / 2 ^ i % 2 == 1) = false; rw [hv]; rfl
        replace hand : (((y : Int) / 2 ^ (i % 8)).tmod 2 == 1) = false := by rw [hand, hv]; rfl
        clear hv h2
        go_wp2_with fail
        refine (rtwice_ok H.na H.nb).mono ?_
        rintro e w9 ⟨x2, z2, rfl, N1, N2, hb⟩
        replace N1 := Lib.hid N1
        replace N2 := Lib.hid N2
        go_wp2_with fail
        go_roundw
        case rel =>
          have hi := HI.out
          have hgo := HG.out
          refine ⟨j + 1, by omega, elval_int (by omega), ?_⟩
          rw [hs.out, hbv.out]
          have H' := H.below hb
          exact ⟨H'.S, H'.nu, N1.out, N2.out, NX.out.below hb, NZ.out.below hb, H'.bel, H'.lo⟩
        case measure =>
          have hi := HI.out
          simp [intOf] <;> omega
      · have hbv : Hid (Ed.bitB K i = true) := by show (K / 2 ^ i % 2 == 1) = true; rw [hv]; rfl
        replace hand : (((y : Int) / 2 ^ (i % 8)).tmod 2 == 1) = true := by rw [hand, hv]; rfl
        clear hv h2
        go_wp2_with fail
        refine (rtwice_ok H.nc H.nd).mono ?_
        rintro e w9 ⟨x2, z2, rfl, N1, N2, hb⟩
        replace N1 := Lib.hid N1
        replace N2 := Lib.hid N2
        go_wp2_with fail
        go_roundw
        case rel =>
          have hi := HI.out
          have hgo := HG.out
          refine ⟨j + 1, by omega, elval_int (by omega), ?_⟩
          rw [hs.out, hbv.out]
          have H' := H.below hb
          exact ⟨H'.S, H'.nu, NX.out.below hb, NZ.out.below hb, N1.out, N2.out, H'.bel, H'.lo⟩
        case measure =>
          have hi := HI.out
          simp [intOf] <;> omega
    · obtain rfl : j = 256 := by omega
      rw [show (255 : Int) - ((256 : Nat) : Int) = -1 by decide]
      have hX : Hid (X = (Ed.rlad u K 256).X1 * Fp.inv (Ed.rlad u K 256).Z1) := HX.out
      generalize Ed.rlad u K 256 = s at *
      go_wp2_with fail
      refine (rfInvert H.nb).mono ?_
      rintro e w8 ⟨vi, rfl, NI, hb⟩
      replace H := H.below hb
      clear hb
      go_wp2_with fail
      refine (rfMul H.na NI).mono ?_
      rintro e w9 ⟨vm, rfl, NM, hb⟩
      replace H := H.below hb
      clear hb
      rw [← hX.out] at NM
      go_wp2_with fail
      refine (refBytes_ok _ _ w9 NM (Nat.lt_trans X.isLt (by decide))).mono ?_
      rintro e w10 ⟨rfl, hb⟩
      go_wp2_with fail
      go_ret
      exact ⟨rfl, H.bel.trans (hb.mono H.bel.size)⟩
end Go.Proofs.Ytopelehfffjfeaa
