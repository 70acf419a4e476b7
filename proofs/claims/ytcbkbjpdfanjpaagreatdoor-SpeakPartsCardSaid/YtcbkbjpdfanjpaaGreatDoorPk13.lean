/-
chacha: Xor.
-/
import Derived.Test.YtcbkbjpdfanjpaaGreatDoorPk12
namespace Go.Proofs.YtcbkbjpdfanjpaaGreatDoor
open Go.RowKit Cha
set_option maxRecDepth 100000
/-- f for the first p places, g behind -/
def upto8 (f g : Nat → UInt8) (n p : Nat) : List UInt8 := (List.range n).map fun q => if q < p then f q else g q
theorem upto8_len (f g : Nat → UInt8) (n p : Nat) : (upto8 f g n p).length = n := by simp [upto8]
theorem upto8_get (f g : Nat → UInt8) (n p q : Nat) (h : q < n) : (upto8 f g n p).getD q 0 = if q < p then f q else g q := by
  unfold upto8
  rw [List.getD_eq_getElem?_getD, List.getElem?_map, List.getElem?_range h]
  rfl
theorem upto8_set (f g : Nat → UInt8) (n p : Nat) : (upto8 f g n p).set p (f p) = upto8 f g n (p + 1) := by
  apply List.ext_getElem?
  intro q
  rw [List.getElem?_set]
  unfold upto8
  simp only [List.length_map, List.length_range, List.getElem?_map]
  by_cases hq : p = q
  · subst hq
    by_cases h : p < n
    · simp [h]
    · simp [h]
  · rw [if_neg hq]
    by_cases h64 : q < n
    · rw [List.getElem?_range h64]
      simp only [Option.map_some]
      by_cases h1 : q < p
      · rw [if_pos h1, if_pos (by omega)]
      · rw [if_neg h1, if_neg (by omega)]
    · rw [List.getElem?_eq_none (by simp; omega)]; rfl
theorem upto8_min (f g : Nat → UInt8) (n p : Nat) : upto8 f g n (min p n) = upto8 f g n p := by
  unfold upto8
  refine List.map_congr_left fun q hq => ?_
  have hq := List.mem_range.1 hq
  by_cases h : q < p
  · rw [if_pos h, if_pos (by omega)]
  · rw [if_neg h, if_neg (by omega)]
theorem upto8_zero (f : Nat → UInt8) (l : List UInt8) : upto8 f (fun q => l.getD q 0) l.length 0 = l := by
  unfold upto8
  apply List.ext_getElem?
  intro q
  rw [List.getElem?_map]
  by_cases h : q < l.length
  · rw [List.getElem?_range h, List.getElem?_eq_getElem h]
    simp [h]
  · rw [List.getElem?_eq_none (by simp; omega), List.getElem?_eq_none (by omega)]; rfl
theorem Sg.byset {w : World} {l : List UInt8} {g off n cap : Nat} (h : Sg w 1 (.slice (some ⟨g, off, none⟩) n cap) n (byv l)) (i : Nat) (v : UInt8) (hi : i < n) : Sg (w.setCell ⟨g, off + i, none⟩ (.int .u8 (v.toNat : Nat))) 1 (.slice (some ⟨g, off, none⟩) n cap) n (byv (l.set i v)) := by
  have := h.set i hi (.int .u8 (v.toNat : Nat))
  rwa [byv_set] at this
theorem Sg.byat {w : World} {l : List UInt8} {g off n cap : Nat} (h : Sg w 1 (.slice (some ⟨g, off, none⟩) n cap) n (byv l)) {i : Nat} (hi : i < n) : w.cell? ⟨g, off + i, none⟩ = some (.int .u8 ((l.getD i 0).toNat : Nat)) ∧ w.frozen? ⟨g, off + i, none⟩ = false := by
  have hl := h.len
  rw [byv_len, Nat.mul_one] at hl
  obtain ⟨g', o', c', he, _, _, _, _, hc, _⟩ := h.open (by omega)
  simp only [Value.slice.injEq, Option.some.injEq, Addr.mk.injEq, true_and, and_true] at he
  obtain ⟨⟨rfl, rfl⟩, rfl⟩ := he
  have := hc i (by omega)
  rw [byv_get l i (by omega)] at this
  exact this
theorem xor_u8 (a b : UInt8) : bits .xor .u8 ((a.toNat : Nat) : Int) ((b.toNat : Nat) : Int) = (((a ^^^ b).toNat : Nat) : Int) := by
  have hx := a.toNat_lt
  have hy := b.toNat_lt
  have key : (BitVec.ofInt 8 (a.toNat : Int) ^^^ BitVec.ofInt 8 (b.toNat : Int)).toNat = a.toNat ^^^ b.toNat := by
    rw [BitVec.toNat_xor, BitVec.toNat_ofInt, BitVec.toNat_ofInt]
    congr 1 <;> omega
  have hlt : a.toNat ^^^ b.toNat < 256 := Nat.xor_lt_two_pow (n := 8) (by omega) (by omega)
  show IntKind.u8.wrap ((BitVec.ofInt 8 (a.toNat : Int) ^^^ BitVec.ofInt 8 (b.toNat : Int)).toNat : Nat) = _
  rw [key, IntKind.wrap_u8, UInt8.toNat_xor]
  omega
namespace Cha
def ctrI (ctr : Int) : Nat → Int
  | 0 => ctr
  | j + 1 => w32 (ctrI ctr j + 1)
def strmB (Bg : List Int) (Or : List Nat) (key : List UInt8) (ctr : Int) (nonce : List UInt8) (q : Nat) : UInt8 := (blockF Bg Or key (ctrI ctr (q / 64)) nonce).getD (q % 64) 0
def xorF (Bg : List Int) (Or : List Nat) (key : List UInt8) (ctr : Int) (nonce : List UInt8) (l : List UInt8) : List UInt8 :=
  upto8 (fun q => l.getD q 0 ^^^ strmB Bg Or key ctr nonce q) (fun q => l.getD q 0) l.length l.length
theorem xorF_len (Bg : List Int) (Or : List Nat) (key : List UInt8) (ctr : Int) (nonce : List UInt8) (l : List UInt8) : (xorF Bg Or key ctr nonce l).length = l.length := upto8_len _ _ _ _
theorem xorF_back (Bg : List Int) (Or : List Nat) (key : List UInt8) (ctr : Int) (nonce : List UInt8) (l : List UInt8) : xorF Bg Or key ctr nonce (xorF Bg Or key ctr nonce l) = l := by
  have hl := xorF_len Bg Or key ctr nonce l
  have hg : ∀ q, q < l.length → (xorF Bg Or key ctr nonce l).getD q 0 = l.getD q 0 ^^^ strmB Bg Or key ctr nonce q := fun q hq => by
    unfold xorF
    rw [upto8_get _ _ _ _ _ hq, if_pos hq]
  generalize hm : xorF Bg Or key ctr nonce l = m at *
  have h0 := upto8_zero (fun _ => 0) l
  unfold xorF
  rw [hl]
  refine Eq.trans ?_ h0
  unfold upto8
  refine List.map_congr_left fun q hq => ?_
  have hq := List.mem_range.1 hq
  rw [if_pos hq, if_neg (by omega)]
  show m.getD q 0 ^^^ strmB Bg Or key ctr nonce q = l.getD q 0
  rw [hg q hq, UInt8.xor_assoc, UInt8.xor_self, UInt8.xor_zero]
end Cha
/-- what Xor holds -/
def XQ (w wx : World) (g n cap kb nb : Nat) (key nonce l : List UInt8) : Prop :=
  Sg wx 1 (.slice (some ⟨g, 0, none⟩) n cap) n (byv l) ∧ Blk wx kb 23 (byv key) ∧ Blk wx nb 79 (byv nonce) ∧ Below w.heap.size w wx
theorem XQ.rw {w wx wy : World} {g n cap kb nb : Nat} {key nonce l : List UInt8} (h : XQ w wx g n cap kb nb key nonce l) (hb : Rw wx wy) : XQ w wy g n cap kb nb key nonce l :=
  ⟨h.1.below hb, h.2.1.rw hb, h.2.2.1.rw hb, Rw.out h.2.2.2 hb⟩
theorem XQ.put {w wx : World} {g n cap kb nb : Nat} {key nonce l : List UInt8} (h : XQ w wx g n cap kb nb key nonce l) (hg : w.heap.size ≤ g) (h1 : kb ≠ g) (h2 : nb ≠ g) {i : Nat} (hi : i < n) (x : UInt8) :
    XQ w (wx.setCell ⟨g, i, none⟩ (.int .u8 (x.toNat : Nat))) g n cap kb nb key nonce (l.set i x) := by
  have e : (⟨g, i, none⟩ : Addr) = ⟨g, 0 + i, none⟩ := by rw [Nat.zero_add]
  exact ⟨by rw [e]; exact h.1.byset i x hi, h.2.1.far h1 _ _, h.2.2.1.far h2 _ _, below_set' h.2.2.2 _ _ _ hg⟩
theorem arr12_size : (Tryz.prog.info? 79).map (·.size) = some 12 := by kernel_rfl
theorem arr32_size' : (Tryz.prog.info? 23).map (·.size) = some 32 := by kernel_rfl
set_option maxHeartbeats 8000000 in
theorem xor_ok (Bg : List Int) (Or : List Nat) (key nonce : List UInt8) (ctr : Int) (l : List UInt8) (hl : l.length ≤ 100000) (w : World) (hT : ChaT w Bg Or) (hk : key.length = 32) (hn : nonce.length = 12) (hg : 8 < w.heap.size ∧ 9 < w.heap.size) :
    Calls Tryz.prog 67 #[.agg (byv key).toArray, .int .u32 ctr, .agg (byv nonce).toArray, .string (by8 l)] w fun e w' => e = .returned (.string (by8 (xorF Bg Or key ctr nonce l))) ∧ Below w.heap.size w w' := by
  have hbk : Hid (∀ (c : Int) w', Below w.heap.size w w' → Calls Tryz.prog 90 #[.agg (byv key).toArray, .int .u32 c, .agg (byv nonce).toArray] w' fun e w'' => e = .returned (.agg (byv (blockF Bg Or key c nonce)).toArray) ∧ Below w'.heap.size w' w'') := Lib.hid fun c w' hb => by
    have := hb.size
    exact block_ok Bg Or key nonce c w' (hT.below hb) hk hn ⟨by omega, by omega⟩
  have LK : Hid ((byv key).length = 32) := Lib.hid (by rw [byv_len]; exact hk)
  have LN : Hid ((byv nonce).length = 12) := Lib.hid (by rw [byv_len]; exact hn)
  obtain ⟨F, hF⟩ : ∃ F : Nat → UInt8, F = fun q => l.getD q 0 ^^^ strmB Bg Or key ctr nonce q := ⟨_, rfl⟩
  obtain ⟨S, hS⟩ : ∃ S : Nat → UInt8, S = fun q => l.getD q 0 := ⟨_, rfl⟩
  obtain ⟨n, hn'⟩ : ∃ n, n = l.length := ⟨_, rfl⟩
  have hxo : xorF Bg Or key ctr nonce l = upto8 F S n n := by rw [hF, hS, hn']; rfl
  have h0l : upto8 F S n (64 * 0) = l := by rw [hS, hn']; exact upto8_zero F l
  have HF := Lib.hid (And.intro hF (And.intro hS (And.intro hxo h0l)))
  have hn1 : n ≤ 100000 := by omega
  have hl8 : (by8 l).size = n := by rw [by8_size, hn']
  rw [hxo]
  have HN := Lib.hid hn'
  clear hF hS hxo h0l hT hk hn hg hl hn'
  go_enter Tryz.func67, Tryz.ntmps67
  go_upto_region 1 with fail
  refine wp_gen (fun wx => Blk wx w.heap.size 23 (byv key) ∧ Blk wx (w.heap.size + 1) 79 (byv nonce) ∧ Below w.heap.size w wx) ⟨(Blk.new w _ (byv key)).alloc _, Blk.new2 _ _ _ (byv nonce), below2 _ _ _⟩ ?_
  rintro w1 ⟨B1, B2, BW⟩
  have hcv := run_by w1 9 68 5 (by8 l) Tryz.underlying9 Tryz.underlying68 Tryz.underlying5
  have SG := by_sg w1 5 (by8 l) (by rw [hl8]; unfold maxLen; omega)
  have RB : Rw w1 (byWorld w1 5 (by8 l)) := by_below w1 5 (by8 l)
  obtain ⟨cp, hv, hcp⟩ : ∃ cp, byVal w1 5 (by8 l) = .slice (some ⟨w1.heap.size, 0, none⟩) n cp ∧ n ≤ cp := by
    have : byVal w1 5 (by8 l) = .slice (some ⟨w1.heap.size, 0, none⟩) (by8 l).size (grownCap w1 (by8 l).size 0 5) := rfl
    rw [hl8] at this
    exact ⟨_, this, grownCap_ge w1 n 0 5⟩
  rw [hv] at hcv SG
  rw [hl8, by8_l] at SG
  have hg1 : w.heap.size + 1 < w1.heap.size := B2.lt
  have H0 : Hid (XQ w (byWorld w1 5 (by8 l)) w1.heap.size n cp w.heap.size (w.heap.size + 1) key nonce (upto8 F S n (64 * 0))) := Lib.hid ⟨by rw [HF.out.2.2.2]; exact SG, B1.rw RB, B2.rw RB, Rw.out BW RB⟩
  clear SG RB hv B1 B2 BW
  generalize byWorld w1 5 (by8 l) = w2 at *
  generalize w1.heap.size = g at *
  go_upto_region 3 with fail
  go_loopw [1, 10] (fun v1 v10 wx => ∃ k : Nat, v1 = .int .u32 (ctrI ctr k) ∧ v10 = .int .i64 (64 * (k : Int)) ∧ k ≤ 2000 ∧ (k = 0 ∨ 64 * k < n + 64) ∧ Hid (XQ w wx g n cp w.heap.size (w.heap.size + 1) key nonce (upto8 F S n (64 * k)))) (fun _ v _ => 200000 - (intOf v).toNat)
  case atStart => exact ⟨0, rfl, rfl, by omega, .inl rfl, H0⟩
  case round =>
    obtain ⟨k, rfl, rfl, hk, hks, hr⟩ := hrel
    clear H0
    obtain ⟨c, hc⟩ : ∃ c, c = ctrI ctr k := ⟨_, rfl⟩
    rw [← hc]
    have HC := Lib.hid hc
    clear hc
    obtain ⟨k6, hk6⟩ : ∃ k6, k6 = 64 * k := ⟨_, rfl⟩
    have ek : 64 * (k : Int) = (k6 : Int) := by omega
    rw [ek]
    rw [← hk6] at hr
    have HK6 := Lib.hid (And.intro hk6 ek)
    have hk6b : k6 ≤ 128000 := by omega
    clear hk6 ek
    rcases Nat.lt_or_ge k6 n with h | h
    · obtain ⟨E, hE⟩ : ∃ E, E = blockF Bg Or key c nonce := ⟨_, rfl⟩
      have hEl : E.length = 64 := by rw [hE]; exact block_len _ _ _ _ _
      have hbc := hbk.out c wr hr.out.2.2.2
      rw [← hE] at hbc
      have HE := Lib.hid (And.intro hE hEl)
      have HBC := Lib.hid hbc
      have LE : Hid ((byv E).length = 64) := Lib.hid (by rw [byv_len]; exact hEl)
      clear hE hEl hbc
      go_upto_region 5 with fail
      go_upto_region 6 with (first | (refine load_blk hr.out.2.1 Tryz.underlying23 rfl arr32_size' LK.out rfl rfl rfl ?_) | (refine load_blk hr.out.2.2.1 Tryz.underlying79 rfl arr12_size LN.out rfl rfl rfl ?_) | (go_at_call 90; refine HBC.out.mono ?_; rintro e w3 ⟨rfl, hb3⟩) | (refine store_blk (Blk.new w3 _ (byv z64)) arr64_size LE.out rfl (byv_one _) rfl rfl rfl rfl ?_))
      have N4 := new_row w3 134 (byv z64) (byv E)
      refine wp_gen (fun wx => Blk wx w3.heap.size 134 (byv E) ∧ Rw wr wx) ⟨N4.1, Rw.trans hb3 N4.2⟩ ?_
      rintro w4 ⟨B4, R4⟩
      have hgx : wr.heap.size ≤ w3.heap.size := hb3.size
      have hge : g < wr.heap.size := hr.out.1.lt (by
        have : cp ≠ 0 := by omega
        simp [vblk, this])
      generalize w3.heap.size = ce at *
      have H4 : Hid (XQ w w4 g n cp w.heap.size (w.heap.size + 1) key nonce (upto8 F S n k6) ∧ Blk w4 ce 134 (byv E)) := Lib.hid ⟨hr.out.rw R4, B4⟩
      clear N4 B4 R4 hb3 HBC hr
      go_upto_region 7 with fail
      go_loopw [12] (fun v12 wx => ∃ i : Nat, v12 = .int .i64 i ∧ k6 ≤ i ∧ i ≤ k6 + 64 ∧ i ≤ n ∧ Hid (XQ w wx g n cp w.heap.size (w.heap.size + 1) key nonce (upto8 F S n i) ∧ Blk wx ce 134 (byv E))) (fun v _ => 200000 - (intOf v).toNat)
      case atStart => exact ⟨k6, rfl, by omega, by omega, by omega, H4⟩
      case round =>
        obtain ⟨i, rfl, hi1, hi2, hi3, hq⟩ := hrel
        clear H4
        go_upto_region 7 with fail
        go_cut [32] (fun v wx => v = .bool (decide (i < k6 + 64 ∧ i < n)) ∧ wr = wx)
        case first =>
          go_wp2_with fail
          all_goals
            go_meet
            refine ⟨?_, rfl⟩
            refine congrArg Value.bool ?_
            rw [decide_eq_decide]
            omega
        case rest =>
        obtain ⟨rfl, rfl⟩ := hcut
        by_cases hAB : i < k6 + 64 ∧ i < n
        · rw [decide_eq_true hAB]
          obtain ⟨hA, hB⟩ := hAB
          obtain ⟨d, hd⟩ : ∃ d, d = i - k6 := ⟨_, rfl⟩
          have ed : (i : Int) - (k6 : Int) = (d : Int) := by omega
          have hd64 : d < 64 := by omega
          have hFi : Hid (F i = S i ^^^ E.getD d 0) := by
            refine Lib.hid ?_
            rw [HF.out.1, HF.out.2.1]
            show _ ^^^ strmB _ _ _ _ _ _ = _
            unfold strmB
            have h1 : i / 64 = k := by have := HK6.out.1; omega
            have h2 : i % 64 = d := by have := HK6.out.1; omega
            rw [h1, h2, ← HC.out, ← HE.out.1]
          have cO := hq.out.1.1.byat (i := i) hB
          rw [Nat.zero_add, upto8_get _ _ _ _ _ hB, if_neg (Nat.lt_irrefl _)] at cO
          obtain ⟨cO, fO⟩ := cO
          have cE := hq.out.2.cell d _ (byv_get E d (by rw [HE.out.2]; exact hd64))
          have ST := hq.out.1.put (by omega) (by omega) (by omega) hB (F i)
          rw [upto8_set] at ST
          have SE := hq.out.2.far (show ce ≠ g by omega) i (.int .u8 ((F i).toNat : Nat))
          rw [hFi.out] at ST SE
          have hxr := xor_u8 (S i) (E.getD d 0)
          generalize S i = xx at *
          generalize E.getD d 0 = yy at *
          have HS := Lib.hid (And.intro ST SE)
          have HXR := Lib.hid hxr
          clear ST SE hq hxr hd hFi
          go_upto_region 9 with fail
          (refine still_tail 11 (by kernel_rfl) (by kernel_rfl) ?_; simp only [List.take_succ_cons, List.take_zero, List.drop_succ_cons, List.drop_zero]; repeat (refine wpStill_step (fun K hK => ?_); go_simp; (try go_ints); (try simp only [↓IntWalk.iteOmega, true_and]); (with_reducible apply hK); clear hK K)); refine wpStill_nil ?_
          go_wp2_with fail
          rw [HXR.out]
          refine ⟨⟨i + 1, by go_num, by omega, by omega, by omega, ?_⟩, ?_⟩
          · exact Lib.hid ⟨HS.out.1.rw (below_drewN (Below.refl _ _) 1), HS.out.2.rw (below_drewN (Below.refl _ _) 1)⟩
          · simp [intOf]; omega
        · have hie : i = min (k6 + 64) n := by omega
          rw [hie, upto8_min] at hq
          have HSB := Lib.hid (decide_eq_false hAB)
          rw [HSB.out]
          have hx2 : Hid (XQ w wr g n cp w.heap.size (w.heap.size + 1) key nonce (upto8 F S n (64 * (k + 1)))) := by
            rw [show 64 * (k + 1) = k6 + 64 by have := HK6.out.1; omega]
            exact Lib.hid hq.out.1
          have hcn : ctrI ctr (k + 1) = IntKind.u32.wrap (c + 1) := by rw [ctrI, ← HC.out]
          have HCN := Lib.hid hcn
          clear hie hAB hq hcn
          go_wp2_with fail
          go_roundw
          case rel => exact ⟨k + 1, by rw [HCN.out]; rfl, val_int (by have := HK6.out.1; omega), by omega, .inr (by have := HK6.out.1; omega), hx2⟩
          case measure => simp [intOf]; omega
    · have hkn : n ≤ 64 * k := by have := HK6.out.1; omega
      have hxx : upto8 F S n k6 = xorF Bg Or key ctr nonce l := by
        rw [HF.out.2.2.1, ← upto8_min F S n k6, Nat.min_eq_right (by omega)]
      have hsg := hr.out.1
      rw [hxx] at hsg
      have hst := run_str (P := Tryz.prog) Tryz.underlying68 Tryz.underlying5 Tryz.underlying9 hsg
      have HST := Lib.hid hst
      have HXX := Lib.hid hxx
      clear hxx hsg
      go_wp2_with fail
      go_ret
      rw [← HF.out.2.2.1]
      exact ⟨rfl, hr.out.2.2.2⟩
end Go.Proofs.YtcbkbjpdfanjpaaGreatDoor
