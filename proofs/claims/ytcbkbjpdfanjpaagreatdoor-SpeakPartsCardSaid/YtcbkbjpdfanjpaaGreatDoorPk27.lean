/-
message: Bytes of a message that may be. (Printed by tools/mi_gen.py.)
-/
import Derived.Test.YtcbkbjpdfanjpaaGreatDoorPk25
import Derived.Test.YtcbkbjpdfanjpaaGreatDoorPk26
namespace Go.Proofs.YtcbkbjpdfanjpaaGreatDoor
open Go.RowKit
set_option maxRecDepth 100000
namespace Mg
open Spl (sv)
open Wob (IsO tO)
open Wa (Bt KT)
theorem iso_keeps {B o : Nat} {l : S} {w w' : World} {G : Nat → Prop} (h : IsO B o l w) (hk : Keeps G w w') (hG : ∀ (k : Nat) (cs : Array Value) (t : TypeId) (m : Nat × Nat), w.heap[k]? = some (.cells cs t m) → (t = 5 ∨ t = tO) → ¬ G k) : IsO B o l w' := by
  have key : ∀ p, Lib.BuilderAt tO 5 B o p (byv l) w → Lib.BuilderAt tO 5 B o p (byv l) w' := by
    rintro p ⟨hB, v, hb, hown, hne⟩
    have lt : ∀ (k : Nat) (x : Obj), w.heap[k]? = some x → k < w.heap.size := fun k x h => (Array.getElem?_eq_some_iff.1 h).1
    refine ⟨hB, v, by rw [hk.block o (lt _ _ hb) (hG o _ _ _ hb (.inr rfl))]; exact hb, ⟨hown.1, ?_⟩, hne⟩
    rcases hown.2 with h | ⟨g, cap, cur, hv, hBg, hg, hr⟩
    · exact .inl h
    · exact .inr ⟨g, cap, cur, hv, hBg, by rw [hk.block g (lt _ _ hg) (hG g _ _ _ hg (.inl rfl))]; exact hg, hr⟩
  exact h.imp (key _) (key _)
theorem iso_below {B o : Nat} {l : S} {w w' : World} (h : IsO B o l w) (hb : Below w.heap.size w w') : IsO B o l w' := iso_keeps h (Keeps.of_below (F := fun _ => False) hb) (fun _ _ _ _ _ _ e => e)
theorem iso_off {B o f : Nat} {l : S} {cs : List Value} {w w' : World} (h : IsO B o l w) (hf : Blk w f tF cs) (hk : Keeps (fun k => k = f) w w') : IsO B o l w' := iso_keeps h hk (fun k cs t m hc ht e => by
  subst e
  unfold Blk at hf
  rw [hf] at hc
  simp only [Option.some.injEq, Obj.cells.injEq] at hc
  obtain ⟨-, rfl, -⟩ := hc
  revert ht
  decide)
set_option maxHeartbeats 1000000 in
theorem onames_ok (B o : Nat) (pre : S) (F : Nat → Prop) (a : Option Addr) (n c : Nat) (x : List S) (w : World) (h : IsO B o pre w) (hs : Rs F w a n c (sv x)) (hx : x.length ≤ 1000) (hj : (Tm.join x).length ≤ 100000) (hl : pre.length < 900000) (hB : B ≤ w.heap.size) :
    Calls Tryz.prog 40 #[.pointer (some ⟨o, 0, none⟩), .slice a n c] w fun e w' => (IsO B o (pre ++ Ms.nm x) w' ∧ Bt B w w') ∧ e = .returned (.pointer (some ⟨o, 0, none⟩)) := by
  have J := Lib.hid (Spl.join_ok F a n c x w hs hx (by omega))
  have Q : Hid (∀ w2, Below w.heap.size w w2 → Calls Tryz.prog 38 #[.pointer (some ⟨o, 0, none⟩), .string (by8 (Tm.join x))] w2 fun e w' => (IsO B o (pre ++ Ms.nm x) w' ∧ Bt B w w') ∧ e = .returned (.pointer (some ⟨o, 0, none⟩))) := Lib.hid fun w2 hb => by
    refine (Wa.otext_ok B o pre (Tm.join x) w2 (iso_below h hb) hl (by omega) (Nat.le_trans hB hb.size)).mono ?_
    rintro e w' ⟨⟨h1, h2⟩, rfl⟩
    exact ⟨⟨h1, (Bt.of_below hb hB).trans h2⟩, rfl⟩
  clear h hs
  go_enter Tryz.func40, Tryz.ntmps40
  go_wp2_with (first | (go_at_call 73; refine J.out.mono ?_; rintro e w2 ⟨rfl, hb⟩) | (go_at_call 38; refine (Q.out _ hb).mono ?_; rintro e w3 ⟨hc, rfl⟩))
  go_ret
  exact ⟨hc, rfl⟩
theorem FB.bt {W0 o : Nat} {w w' : World} {f : Nat} {k : Int} {u : List Nat} {s : List S} {n : List (List S)} {b : List Bool} (h : FB (fun q => W0 ≤ q) w f k u s n b) (hb : Bt o w w') (ho : W0 ≤ o) : FB (fun q => W0 ≤ q) w' f k u s n b := by
  obtain ⟨au, aq, an, ab, nu, cu, ns, cs, nn, cn, nb, cb, h1, h2⟩ := h
  have hk : Keeps (fun q => o ≤ q) w w' := ⟨hb.b.os, hb.b.tape, hb.b.output, hb.b.size, fun i _ hn => hb.b.block i (by omega)⟩
  exact ⟨au, aq, an, ab, nu, cu, ns, cs, nn, cn, nb, cb, hb.k.blk h1 (by decide) (by decide), h2.keeps hk (fun g _ e => Nat.le_trans ho e)⟩
/-- what holds ahead of a letter -/
structure BL (w : World) (o f : Nat) (k : Int) (full : S) (r : S) (u : List Nat) (s : List S) (n : List (List S)) (b : List Bool) (wx : World) : Prop where
  fit : Ms.fits r u s n b
  fw : Fw s n
  lu : u.length ≤ 20
  lb : b.length ≤ 20
  ub : ∀ x ∈ u, x < 4294967296
  fb : FB (fun q => w.heap.size ≤ q) wx f k u s n b
  out : ∃ pre, IsO o o pre wx ∧ pre ++ Ms.enc r u s n b = full ∧ o ≤ wx.heap.size
  bw : Below w.heap.size w wx
/-- after one field was taken and written -/
theorem BL.next {w : World} {o f : Nat} {k : Int} {full r r2 e : S} {u u2 : List Nat} {s s2 : List S} {n n2 : List (List S)} {b b2 : List Bool} {wx w5 w6 : World} {pre : S} (hl : w.heap.size ≤ o) (hf : w.heap.size ≤ f)
    (h : BL w o f k full r u s n b wx) (hpre : IsO o o pre wx ∧ pre ++ Ms.enc r u s n b = full ∧ o ≤ wx.heap.size) (fit : Ms.fits r2 u2 s2 n2 b2) (hr : Ms.enc r u s n b = e ++ Ms.enc r2 u2 s2 n2 b2) (fw : Fw s2 n2) (lu : u2.length ≤ 20) (lb : b2.length ≤ 20) (ub : ∀ x ∈ u2, x < 4294967296)
    (h5 : FB (fun q => w.heap.size ≤ q) w5 f k u2 s2 n2 b2) (k5 : Keeps (fun q => q = f) wx w5) (h6 : IsO o o (pre ++ e) w6) (b6 : Bt o w5 w6) : BL w o f k full r2 u2 s2 n2 b2 w6 :=
  ⟨fit, fw, lu, lb, ub, h5.bt b6 hl, ⟨pre ++ e, h6, by rw [List.append_assoc, ← hr]; exact hpre.2.1, Nat.le_trans hpre.2.2 (Nat.le_trans k5.size b6.size)⟩,
    (h.bw.trans (k5.below h.bw.size (fun q hq e => by omega))).trans (b6.b.mono hl)⟩
theorem FB.iso {F : Nat → Prop} {B o f : Nat} {k : Int} {u : List Nat} {s : List S} {n : List (List S)} {b : List Bool} {l : S} {w w' : World} (h : IsO B o l w) (hf : FB F w f k u s n b) (hk : Keeps (fun k => k = f) w w') : IsO B o l w' := by
  obtain ⟨_, _, _, _, _, _, _, _, _, _, _, _, h1, _⟩ := hf
  exact iso_off h h1 hk
set_option maxHeartbeats 16000000 in
theorem bytes_ok (kn : Nat) (ls : S) (u : List Nat) (s : List S) (n : List (List S)) (b : List Bool) (au aq an ab : Option Addr) (nu cu ns cs nn cn nb cb : Nat) (w : World) (hR : RowsAt w) (hls : Ms.letters (kn : Nat) = some ls) (hf : Ms.fits ls u s n b) (hw : Fw s n) (hub : ∀ x ∈ u, x < 4294967296)
    (hv : FV (fun _ => False) w u s n b au aq an ab nu cu ns cs nn cn nb cb) :
    Calls Tryz.prog 10 #[.agg #[.int .i64 (kn : Nat), .slice au nu cu, .slice aq ns cs, .slice an nn cn, .slice ab nb cb]] w fun e w' => e = .returned (.string (by8 (UInt8.ofNat kn :: Ms.enc ls u s n b))) ∧ Below w.heap.size w w' := by
  have hlo := Ms.letters_ok hls
  have hk1 : 1 ≤ kn ∧ kn ≤ 100 := by have h1 := hlo.2.2.2.1; have h2 := hlo.2.2.2.2; omega
  have P := Lib.hid (fun w' (h : RowsAt w') => fields_ok (kn : Nat) ls hls w' h)
  have hln : ls.length ≤ 13 := hlo.2.2.1
  have hel := Ms.enc_len ls u s n b hf hw.s.2 hw.n.2
  obtain ⟨q1, q2, q3, q4⟩ := fits_len ls u s n b hf
  have CK : Hid (∀ w', Below w.heap.size w w' → Calls Tryz.prog 33 #[.agg #[.int .i64 (kn : Nat), .slice au nu cu, .slice aq ns cs, .slice an nn cn, .slice ab nb cb]] w' fun e w'' => e = .returned .nilIface ∧ Below w'.heap.size w' w'') := Lib.hid fun w' hb => check_ok _ ls u s n b au aq an ab nu cu ns cs nn cn nb cb w' (hR.below hb) hls hf hw (hv.below hb)
  obtain ⟨full, hfull⟩ : ∃ full, full = UInt8.ofNat kn :: Ms.enc ls u s n b := ⟨_, rfl⟩
  have hfl : full.length ≤ 6000 := by rw [hfull, List.length_cons]; have : 400 * ls.length ≤ 400 * 13 := Nat.mul_le_mul_left _ hln; omega
  have lub : u.length ≤ 20 ∧ b.length ≤ 20 := by
    have h1 := List.count_le_length (a := (117 : UInt8)) (l := ls)
    have h2 := List.count_le_length (a := (98 : UInt8)) (l := ls)
    omega
  have HH := Lib.hid (And.intro hR (And.intro hf (And.intro hw (And.intro hv (And.intro lub hub)))))
  have HF := Lib.hid hfull
  have HFN : Hid (full ≠ []) := Lib.hid (by rw [hfull]; simp)
  have HSI : Hid (∀ j (h : j < (by8 ls).size), (((by8 ls)[j]'h).toNat : Int) = ((ls.getD j 0).toNat : Nat)) := Lib.hid fun j h => by rw [by_index]; rfl
  obtain ⟨N, hN⟩ : ∃ N, N = ls.length := ⟨_, rfl⟩
  have hsz : (by8 ls).size = N := by rw [by8_size, hN]
  have hN13 : N ≤ 13 := by omega
  have HN := Lib.hid hN
  have hx1 : (UInt8.ofNat kn).toNat = kn := by rw [UInt8.toNat_ofNat']; omega
  rw [← hfull]
  clear hR hls hf hw hv hN hlo hel hln hub lub hfull q1 q2 q3 q4
  go_enter Tryz.func10, Tryz.ntmps10
  go_upto_region 1 with fail
  refine wp_gen (fun wx => Blk wx w.heap.size tM [.int .i64 (kn : Nat), .slice au nu cu, .slice aq ns cs, .slice an nn cn, .slice ab nb cb] ∧ Below w.heap.size w wx) ⟨Blk.new w tM [.int .i64 (kn : Nat), .slice au nu cu, .slice aq ns cs, .slice an nn cn, .slice ab nb cb], below1 _ _⟩ ?_
  rintro w1 ⟨O1, B1⟩
  go_upto_region 3 with (first | refine load_wide O1 Tryz.underlying49 rfl msg_size rfl rfl rfl rfl ?_ | (go_at_call 33; refine (CK.out _ B1).mono ?_; rintro e w2 ⟨rfl, hb2⟩))
  have O2 := O1.below hb2 O1.lt
  have B2 := B1.trans (hb2.mono B1.size)
  have c0 := O2.cell 0 _ rfl
  clear O1 B1 hb2 CK
  go_upto_region 4 with (go_at_call 34; refine (P.out _ (HH.out.1.below B2)).mono ?_; rintro e w3 ⟨rfl, hb3⟩)
  have O3 := O2.below hb3 O2.lt
  have B3 := B2.trans (hb3.mono B2.size)
  clear O2 B2 hb3 c0 P
  have ho3 : w.heap.size < w3.heap.size := O3.lt
  go_upto_region 5 with fail
  refine wp_gen (fun wx => IsO w3.heap.size w3.heap.size [] wx ∧ Blk wx w.heap.size tM [.int .i64 (kn : Nat), .slice au nu cu, .slice aq ns cs, .slice an nn cn, .slice ab nb cb] ∧ Below w.heap.size w wx ∧ w3.heap.size ≤ wx.heap.size) ⟨Lib.fresh_isBuilder _ _ w3, O3.alloc _, B3.alloc B3.size _, by simp⟩ ?_
  clear O3 B3
  generalize w3.heap.size = o at *
  rintro w4 ⟨S4, O4, B4, s4⟩
  have c0 := O4.cell 0 _ rfl
  have BY := Lib.hid (Wa.obyte_ok o o [] (UInt8.ofNat kn) w4 S4 (by decide) s4)
  rw [hx1] at BY
  clear S4
  go_upto_region 6 with (go_at_call 27; refine BY.out.mono ?_; rintro e w5 ⟨⟨S5, hb5⟩, rfl⟩)
  have O5 := O4.below hb5.b (by omega)
  have B5 := B4.trans (hb5.b.mono (by omega))
  have s5 := Nat.le_trans s4 hb5.size
  clear BY O4 B4 s4 c0 hb5
  go_upto_region 7 with (refine load_wide O5 Tryz.underlying49 rfl msg_size rfl rfl rfl rfl ?_)
  have H7 : Hid (BL w o w5.heap.size (kn : Nat) full ls u s n b (w5.alloc (.cells #[.int .i64 (kn : Nat), .slice au nu cu, .slice aq ns cs, .slice an nn cn, .slice ab nb cb] tF)) ∧ w.heap.size ≤ w5.heap.size) :=
    Lib.hid ⟨⟨HH.out.2.1, HH.out.2.2.1, HH.out.2.2.2.2.1.1, HH.out.2.2.2.2.1.2, HH.out.2.2.2.2.2, ⟨_, _, _, _, _, _, _, _, _, _, _, _, Blk.new w5 tF [.int .i64 (kn : Nat), .slice au nu cu, .slice aq ns cs, .slice an nn cn, .slice ab nb cb], (HH.out.2.2.2.1.mono (fun g hg e => by omega)).keeps (Keeps.of_below (F := fun _ => False) (B5.alloc B5.size _)) (fun _ _ e => e.elim)⟩, ⟨_, iso_below S5 (below1 w5 _), by rw [HF.out]; rfl, by simp; omega⟩, B5.alloc B5.size _⟩, B5.size⟩
  clear O5 B5 S5 HF
  generalize w5.alloc _ = w6 at *
  generalize w5.heap.size = f at *
  have hof : w.heap.size ≤ o := by omega
  go_upto_region 8 with fail
  go_loopw [26] (fun v26 wx => ∃ (i : Nat) (u' : List Nat) (s' : List S) (n' : List (List S)) (b' : List Bool), v26 = .int .i64 i ∧ i ≤ N ∧ Hid (BL w o f (kn : Nat) full (ls.drop i) u' s' n' b' wx ∧ w.heap.size ≤ f)) (fun v _ => N - (intOf v).toNat)
  case atStart => exact ⟨0, u, s, n, b, rfl, Nat.zero_le _, H7⟩
  case round =>
    obtain ⟨i, u', s', n', b', rfl, hi, hr⟩ := hrel
    clear H7
    by_cases hgo : i < N
    · have hk : i < (by8 ls).size := by omega
      have hby := HSI.out i hk
      have hdr : Hid (ls.drop i = ls.getD i 0 :: ls.drop (i + 1)) := Lib.hid (by
        have hil : i < ls.length := by rw [← HN.out]; exact hgo
        rw [List.drop_eq_getElem_cons hil, List.getD_eq_getElem?_getD, List.getElem?_eq_getElem hil]
        rfl)
      have hr2 : Hid (BL w o f (kn : Nat) full (ls.getD i 0 :: ls.drop (i + 1)) u' s' n' b' wr ∧ w.heap.size ≤ f) := Lib.hid (by rw [← hdr.out]; exact hr.out)
      clear hr hdr
      generalize ls.getD i 0 = c at *
      obtain ⟨hbl, hlf⟩ := hr2.out
      obtain ⟨pre, hpre⟩ := hbl.out
      have hpl : pre.length ≤ 6000 := by
        have := congrArg List.length hpre.2.1
        rw [List.length_append] at this
        omega
      by_cases e1 : c = 117
      · subst e1
        have hby1 : (((by8 ls)[i]'hk).toNat : Int) = 117 := hby
        obtain ⟨x, ut, rfl, hf2, hen⟩ := Ms.fits_u hbl.fit
        have hx := hbl.ub x List.mem_cons_self
        have CN := Lib.hid (FB.us hbl.fb hlf (by have := hbl.lu; rw [List.length_cons] at this; omega))
        have QN : Hid (∀ w5, FB (fun q => w.heap.size ≤ q) w5 f (kn : Nat) ut s' n' b' → Keeps (fun q => q = f) wr w5 → Calls Tryz.prog 26 #[.pointer (some ⟨o, 0, none⟩), .int .u32 (x : Nat)] w5 fun e w6 => BL w o f (kn : Nat) full (ls.drop (i + 1)) ut s' n' b' w6 ∧ e = .returned (.pointer (some ⟨o, 0, none⟩))) := Lib.hid fun w5 h5 k5 => by
          refine (Wa.u32_ok o o pre x w5 (hbl.fb.iso hpre.1 k5) (by omega) hx (Nat.le_trans hpre.2.2 k5.size)).mono ?_
          rintro e w6 ⟨⟨h6, b6⟩, rfl⟩
          exact ⟨hbl.next hof hlf hpre hf2 hen hbl.fw (by have := hbl.lu; rw [List.length_cons] at this; omega) hbl.lb (fun y hy => hbl.ub y (List.mem_cons_of_mem _ hy)) h5 k5 h6 b6, rfl⟩
        clear hby hbl hpre hf2 hen hr2
        go_wp2_with (first | (go_at_call 35; refine CN.out.mono ?_; rintro e w5 ⟨rfl, hb5, hk5⟩) | (go_at_call 26; refine (QN.out _ hb5 hk5).mono ?_; rintro e w6 ⟨h6, rfl⟩))
        have H8 := Lib.hid (And.intro h6 hlf)
        clear hb5 hk5 h6 CN QN
        go_roundw
        case rel => exact ⟨i + 1, ut, s', n', b', by go_num, by omega, H8⟩
        case measure => simp [intOf]; omega
      by_cases e2 : c = 98
      · subst e2
        have hby1 : (((by8 ls)[i]'hk).toNat : Int) = 98 := hby
        obtain ⟨x, bt, rfl, hf2, hen⟩ := Ms.fits_b hbl.fit
        have CN := Lib.hid (FB.bs hbl.fb hlf (by have := hbl.lb; rw [List.length_cons] at this; omega))
        have QN : Hid (∀ w5, FB (fun q => w.heap.size ≤ q) w5 f (kn : Nat) u' s' n' bt → Keeps (fun q => q = f) wr w5 → Calls Tryz.prog 36 #[.pointer (some ⟨o, 0, none⟩), .bool x] w5 fun e w6 => BL w o f (kn : Nat) full (ls.drop (i + 1)) u' s' n' bt w6 ∧ e = .returned (.pointer (some ⟨o, 0, none⟩))) := Lib.hid fun w5 h5 k5 => by
          refine (Wa.obool_ok o o pre x w5 (hbl.fb.iso hpre.1 k5) (by omega) (Nat.le_trans hpre.2.2 k5.size)).mono ?_
          rintro e w6 ⟨⟨h6, b6⟩, rfl⟩
          exact ⟨hbl.next hof hlf hpre hf2 hen hbl.fw hbl.lu (by have := hbl.lb; rw [List.length_cons] at this; omega) hbl.ub h5 k5 h6 b6, rfl⟩
        clear hby hbl hpre hf2 hen hr2 e1
        go_wp2_with (first | (go_at_call 37; refine CN.out.mono ?_; rintro e w5 ⟨rfl, hb5, hk5⟩) | (go_at_call 36; refine (QN.out _ hb5 hk5).mono ?_; rintro e w6 ⟨h6, rfl⟩))
        have H8 := Lib.hid (And.intro h6 hlf)
        clear hb5 hk5 h6 CN QN
        go_roundw
        case rel => exact ⟨i + 1, u', s', n', bt, by go_num, by omega, H8⟩
        case measure => simp [intOf]; omega
      by_cases e3 : c = 110
      · subst e3
        have hby1 : (((by8 ls)[i]'hk).toNat : Int) = 110 := hby
        obtain ⟨x, nt, rfl, hnm, hf2, hen⟩ := Ms.fits_n hbl.fit
        have CN := Lib.hid (FB.ns hbl.fb hlf (by have := hbl.fw.n.1; rw [List.length_cons] at this; omega))
        have QN : Hid (∀ w5 a k' c', Rs (fun q => w.heap.size ≤ q) w5 a k' c' (sv x) → FB (fun q => w.heap.size ≤ q) w5 f (kn : Nat) u' s' nt b' → Keeps (fun q => q = f) wr w5 → Calls Tryz.prog 40 #[.pointer (some ⟨o, 0, none⟩), .slice a k' c'] w5 fun e w6 => BL w o f (kn : Nat) full (ls.drop (i + 1)) u' s' nt b' w6 ∧ e = .returned (.pointer (some ⟨o, 0, none⟩))) := Lib.hid fun w5 a k' c' hs5 h5 k5 => by
          have hx6 := hbl.fw.n.2 x List.mem_cons_self
          have hjl := Ms.join_len 64 x (fun y hy => (name_parts (hnm y hy)).2.1)
          have hj : (Tm.join x).length ≤ 390 := Nat.le_trans hjl (Nat.mul_le_mul_right _ hx6)
          refine (onames_ok o o pre _ a k' c' x w5 (hbl.fb.iso hpre.1 k5) hs5 (by omega) (by omega) (by omega) (Nat.le_trans hpre.2.2 k5.size)).mono ?_
          rintro e w6 ⟨⟨h6, b6⟩, rfl⟩
          exact ⟨hbl.next hof hlf hpre hf2 hen hbl.fw.tn hbl.lu hbl.lb hbl.ub h5 k5 h6 b6, rfl⟩
        clear hby hbl hpre hf2 hen hr2 e1 e2 hnm
        go_wp2_with (first | (go_at_call 41; refine CN.out.mono ?_; rintro e w5 ⟨⟨a5, k5, c5, rfl, hs5⟩, hb5, hk5⟩) | (go_at_call 40; refine (QN.out _ _ _ _ hs5 hb5 hk5).mono ?_; rintro e w6 ⟨h6, rfl⟩))
        have H8 := Lib.hid (And.intro h6 hlf)
        clear hb5 hk5 h6 CN QN hs5
        go_roundw
        case rel => exact ⟨i + 1, u', s', nt, b', by go_num, by omega, H8⟩
        case measure => simp [intOf]; omega
      obtain ⟨hcc, x, st, rfl, h16, hf2, hen⟩ := Ms.fits_s hbl.fit e1 e3 e2
      have hx100 := hbl.fw.s.2 x List.mem_cons_self
      have CN := Lib.hid (FB.ss hbl.fb hlf (by have := hbl.fw.s.1; rw [List.length_cons] at this; omega))
      have QT : Hid (c = 115 → ∀ w5, FB (fun q => w.heap.size ≤ q) w5 f (kn : Nat) u' st n' b' → Keeps (fun q => q = f) wr w5 → Calls Tryz.prog 38 #[.pointer (some ⟨o, 0, none⟩), .string (by8 x)] w5 fun e w6 => BL w o f (kn : Nat) full (ls.drop (i + 1)) u' st n' b' w6 ∧ e = .returned (.pointer (some ⟨o, 0, none⟩))) := Lib.hid fun hc w5 h5 k5 => by
        subst hc
        refine (Wa.otext_ok o o pre x w5 (hbl.fb.iso hpre.1 k5) (by omega) (by omega) (Nat.le_trans hpre.2.2 k5.size)).mono ?_
        rintro e w6 ⟨⟨h6, b6⟩, rfl⟩
        exact ⟨hbl.next hof hlf hpre hf2 hen hbl.fw.ts hbl.lu hbl.lb hbl.ub h5 k5 h6 b6, rfl⟩
      have QR : Hid (c ≠ 115 → ∀ w5, FB (fun q => w.heap.size ≤ q) w5 f (kn : Nat) u' st n' b' → Keeps (fun q => q = f) wr w5 → Calls Tryz.prog 28 #[.pointer (some ⟨o, 0, none⟩), .string (by8 x)] w5 fun e w6 => BL w o f (kn : Nat) full (ls.drop (i + 1)) u' st n' b' w6 ∧ e = .returned (.pointer (some ⟨o, 0, none⟩))) := Lib.hid fun hc w5 h5 k5 => by
        rw [if_neg hc] at hen
        refine (Wa.raw_ok o o pre x w5 (hbl.fb.iso hpre.1 k5) (by omega) (Nat.le_trans hpre.2.2 k5.size)).mono ?_
        rintro e w6 ⟨⟨h6, b6⟩, rfl⟩
        exact ⟨hbl.next hof hlf hpre hf2 hen hbl.fw.ts hbl.lu hbl.lb hbl.ub h5 k5 h6 b6, rfl⟩
      have hcc2 : c = 99 ∨ c = 115 ∨ c = 114 := by rcases hcc with h | h | h <;> simp [h]
      clear hcc hbl hpre hf2 hen hr2 e1 e2 e3 h16
      rcases hcc2 with rfl | rfl | rfl
      · have hby1 : (((by8 ls)[i]'hk).toNat : Int) = 99 := hby
        have QQ := Lib.hid (QR.out (by decide))
        clear hby QT QR
        go_wp2_with (first | (go_at_call 39; refine CN.out.mono ?_; rintro e w5 ⟨rfl, hb5, hk5⟩) | (go_at_call 28; refine (QQ.out _ hb5 hk5).mono ?_; rintro e w6 ⟨h6, rfl⟩))
        have H8 := Lib.hid (And.intro h6 hlf)
        clear hb5 hk5 h6 CN QQ
        go_roundw
        case rel => exact ⟨i + 1, u', st, n', b', by go_num, by omega, H8⟩
        case measure => simp [intOf]; omega
      · have hby1 : (((by8 ls)[i]'hk).toNat : Int) = 115 := hby
        have QQ := Lib.hid (QT.out (by decide))
        clear hby QT QR
        go_wp2_with (first | (go_at_call 39; refine CN.out.mono ?_; rintro e w5 ⟨rfl, hb5, hk5⟩) | (go_at_call 38; refine (QQ.out _ hb5 hk5).mono ?_; rintro e w6 ⟨h6, rfl⟩))
        have H8 := Lib.hid (And.intro h6 hlf)
        clear hb5 hk5 h6 CN QQ
        go_roundw
        case rel => exact ⟨i + 1, u', st, n', b', by go_num, by omega, H8⟩
        case measure => simp [intOf]; omega
      · have hby1 : (((by8 ls)[i]'hk).toNat : Int) = 114 := hby
        have QQ := Lib.hid (QR.out (by decide))
        clear hby QT QR
        go_wp2_with (first | (go_at_call 39; refine CN.out.mono ?_; rintro e w5 ⟨rfl, hb5, hk5⟩) | (go_at_call 28; refine (QQ.out _ hb5 hk5).mono ?_; rintro e w6 ⟨h6, rfl⟩))
        have H8 := Lib.hid (And.intro h6 hlf)
        clear hb5 hk5 h6 CN QQ
        go_roundw
        case rel => exact ⟨i + 1, u', st, n', b', by go_num, by omega, H8⟩
        case measure => simp [intOf]; omega
    · obtain rfl : i = N := by omega
      obtain ⟨hbl, hlf⟩ := hr.out
      obtain ⟨pre, hpre1, hpre2, hpre3⟩ := hbl.out
      have hd : ls.drop i = [] := by rw [HN.out]; exact List.drop_length
      have hfe : pre = full := by
        have hh := hpre2
        rw [hd] at hh
        unfold Ms.enc at hh
        rw [List.append_nil] at hh
        exact hh
      have hne : pre ≠ [] := fun e => by
        subst e
        subst hfe
        have h1 := congrArg List.length hpre2
        rw [hd] at hbl
        have h2 := HFN.out
        exact h2 rfl
      subst hfe
      have OB := Lib.hid (Wob.obytes_ok o o pre wr hpre1 hne hpre3)
      have BB := Lib.hid hbl.bw
      clear hbl hpre1 hpre2 hd hne hr
      go_wp2_with (go_at_call 30; refine OB.out.mono ?_; rintro e w9 ⟨rfl, hb9⟩)
      go_ret
      exact ⟨rfl, BB.out.trans (hb9.mono hof)⟩
end Mg
end Go.Proofs.YtcbkbjpdfanjpaaGreatDoor
