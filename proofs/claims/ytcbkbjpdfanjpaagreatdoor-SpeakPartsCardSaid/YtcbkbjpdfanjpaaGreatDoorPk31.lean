/-
packet: Pack.
The plain law of hello: what comes of bytes.
-/
import Derived.Test.YtcbkbjpdfanjpaaGreatDoorPk29
import Derived.Test.YtcbkbjpdfanjpaaGreatDoorPk30
namespace Go.Proofs.YtcbkbjpdfanjpaaGreatDoor
open Go.RowKit
set_option maxRecDepth 100000
namespace Pt
open Cha Pol
open Wc (IsR Kr StB)
open Wob (tO)
theorem szL_ne (sl : Bool) (p : S) : szL sl p ≠ [] := by unfold szL Wob.be4; simp
theorem bdL_ne (sl : Bool) (p : S) : bdL sl p ≠ [] := by unfold bdL Ms.bodyL; simp
set_option maxHeartbeats 16000000 in
theorem pack_ok (Bg : List Int) (Or : List Nat) (b c : Nat) (sl : Bool) (key p : S) (w : World) (h : Blk w b tWr (lnC c sl key [])) (hk : key.length = 32) (hP : PC Bg Or w) (hp0 : p ≠ []) (hp : p.length ≤ 6000) (hc9 : c < 1000000) :
    Calls Tryz.prog 9 #[.pointer (some ⟨b, 0, none⟩), .string (by8 p)] w fun e w' => e = .returned (.tuple #[.string (by8 (pktL Bg Or sl key c p)), .nilIface]) ∧ Blk w' b tWr (lnC (c + 1) sl key []) ∧ Keeps (fun q => q = b) w w' := by
  have hbl := h.lt
  have hem : (by8 p).toList.isEmpty = false := by rw [by8_empty]; exact decide_eq_false (fun e => hp0 (List.eq_nil_of_length_eq_zero e))
  have hsz := by8_size p
  have hpd := pd_ok sl p
  have hah4 : ahN sl ≤ 4 := by cases sl <;> decide
  have AH := Lib.hid (ahead_ok b c tWr sl key [] w h)
  have HH := Lib.hid (And.intro h (And.intro hk hP))
  obtain ⟨L, hL⟩ : ∃ L, L = p.length := ⟨_, rfl⟩
  obtain ⟨ah, hah⟩ : ∃ ah, ah = ahN sl := ⟨_, rfl⟩
  obtain ⟨pd, hpd0⟩ : ∃ pd, pd = pdN sl p := ⟨_, rfl⟩
  obtain ⟨r, hr⟩ : ∃ r, r = (ah + (L + 1) + 4) % 8 := ⟨_, rfl⟩
  obtain ⟨q, hq⟩ : ∃ q, q = (8 - r) % 8 := ⟨_, rfl⟩
  have hpq : pd = 4 + q := by rw [hpd0, hq, hr, hah, hL]; rfl
  have e1 : ((ah : Int) + ((L : Int) + 1) + 4).tmod 8 = (r : Nat) := by rw [Int.tmod_eq_emod_of_nonneg (by omega)]; omega
  have e1' : ((ah : Int) + ((L : Int) + 1) + 4) % 8 = (r : Nat) := by omega
  have e2 : ((8 : Int) - r).tmod 8 = (q : Nat) := by rw [Int.tmod_eq_emod_of_nonneg (by omega)]; omega
  have e2' : ((8 : Int) - r) % 8 = (q : Nat) := by omega
  have hszn : szN sl p = L + 1 + pd := by rw [hL, hpd0]; rfl
  have hx1 : (UInt8.ofNat pd).toNat = pd := by rw [UInt8.toNat_ofNat']; omega
  have BDE : Hid ([UInt8.ofNat pd] ++ p ++ List.replicate pd 0 = bdL sl p) := Lib.hid (by rw [hpd0]; rfl)
  have hq8 : q < 8 := by omega
  have hr8 : r < 8 := by omega
  have hL6 : L ≤ 6000 := by omega
  have hsp : (by8 p).size = L := by omega
  have hpi : ((4 : Int) + q) = (pd : Nat) := by omega
  have hpd1 : 4 ≤ pd ∧ pd ≤ 11 := by omega
  obtain ⟨m, hm⟩ : ∃ m, m = L + 1 + pd := ⟨_, rfl⟩
  have hni : ((L : Int) + 1 + pd) = (m : Int) := by omega
  have hm6 : m ≤ 6012 := by omega
  have HL := Lib.hid hL
  have HPL : Hid (p.length ≤ 7000) := Lib.hid (by omega)
  rw [← hm] at hszn
  have HZ := Lib.hid hszn
  have HAH := Lib.hid hah
  rw [← hah] at AH hah4
  clear h hP hp0 hL hah hpd0 hr hq hpq hszn hpd hsz hp hm
  go_enter Tryz.func9, Tryz.ntmps9
  go_upto_region 7 with (go_at_call 25; refine AH.out.mono ?_; rintro e w1 ⟨rfl, rfl⟩)
  go_upto_region 8 with fail
  obtain ⟨o, ho⟩ : ∃ o, o = w.heap.size := ⟨_, rfl⟩
  refine wp_gen (fun wx => IsR (o + 2) o [] wx ∧ (∀ B, IsR B (o + 1) [] wx) ∧ Below w.heap.size w wx ∧ o + 2 ≤ wx.heap.size) ⟨?_, ?_, below2 _ _ _, by simp [ho]⟩ ?_
  · rw [ho]
    exact (Wc.fresh w _).below (below1 _ _)
  · intro B
    have := Wc.fresh (w.alloc (.cells #[.pointer none, .slice none 0 0] tO)) B
    rwa [show (w.alloc (.cells #[Value.pointer none, Value.slice none 0 0] tO)).heap.size = o + 1 by rw [ho]; simp] at this
  rintro w2 ⟨I1, I2, B2, s2⟩
  rw [← ho]
  have hwo : w.heap.size ≤ o := by omega
  have hbo : b < o := by omega
  clear ho
  have U2 := Lib.hid (Wc.u32_ok (o + 2) o [] m w2 I1 (by decide) (by omega) s2)
  have H2 := Lib.hid (And.intro I2 (And.intro B2 s2))
  clear I1 I2 B2 s2
  go_upto_region 9 with (go_at_call 26; refine U2.out.mono ?_; rintro e w3 ⟨⟨O3, K3⟩, rfl⟩)
  have O3' : IsR (o + 2) o (szL sl p) w3 := by unfold szL; rw [HZ.out]; exact O3
  obtain ⟨g1, hg1, hgo, ST3⟩ := O3'.st (szL_ne sl p)
  have B3 : Below w.heap.size w w3 := H2.out.2.1.trans (K3.k.below H2.out.2.1.size (fun k hk e => by omega))
  have I3 : IsR w3.heap.size (o + 1) [] w3 := (H2.out.1 w3.heap.size).keeps K3.k (fun e => by omega) (fun k hk hB e => by have := K3.size; omega)
  have s3 : o + 2 ≤ w3.heap.size := Nat.le_trans H2.out.2.2 K3.size
  have hg1l := ST3.lt.2
  have NP : IntKind.u8.wrap (pd : Int) = ((UInt8.ofNat pd).toNat : Int) := by rw [IntKind.wrap_u8, hx1]; omega
  have Y3 := Lib.hid (Wc.obyte_ok w3.heap.size (o + 1) [] (UInt8.ofNat pd) w3 I3 (by decide) (Nat.le_refl _))
  have H3 := Lib.hid (And.intro ST3 (And.intro B3 s3))
  clear O3 O3' K3 H2 U2 ST3 B3 I3 s3
  rw [hx1] at Y3
  have hH : o + 2 ≤ w3.heap.size ∧ g1 < w3.heap.size := ⟨H3.out.2.2, hg1l⟩
  have HS3 : Hid (∀ (x : List UInt8) (wx : World), IsR w3.heap.size (o + 1) x wx → x.length ≤ 10000 → w3.heap.size ≤ wx.heap.size → ∀ y : List UInt8, y.length ≤ 10000 → Calls Tryz.prog 28 #[.pointer (some ⟨o + 1, 0, none⟩), .string (by8 y)] wx fun e w' => (IsR w3.heap.size (o + 1) (x ++ y) w' ∧ Kr w3.heap.size (o + 1) wx w') ∧ e = .returned (.pointer (some ⟨o + 1, 0, none⟩))) := Lib.hid fun x wx hi hx hB y hy => Wc.raw_ok w3.heap.size (o + 1) x y wx hi (by omega) hB
  have REP := Lib.hid (fun w => sh_repeat ⟨#[0]⟩ pd w (by omega) (by show 1 * pd ≤ _; omega))
  obtain ⟨H, hHd⟩ : ∃ H, H = w3.heap.size := ⟨_, rfl⟩
  rw [← hHd] at hH HS3 Y3
  have hH3 : H ≤ w3.heap.size := by omega
  clear hg1l hHd
  go_upto_region 10 with (first
    | (go_at_call 27; refine Y3.out.mono ?_; rintro e w4 ⟨⟨I4, K4⟩, rfl⟩; have hs4 := Nat.le_trans hH3 K4.size; have R4 := Lib.hid (HS3.out _ w4 I4 (by simp) hs4 p (Nat.le_trans HPL.out (by decide))))
    | (go_at_call 28; refine R4.out.mono ?_; rintro e w5 ⟨⟨I5, K5⟩, rfl⟩; clear R4)
    | (go_at_call 29; refine (REP.out _).mono ?_; rw [rep0]; rintro e w6 ⟨rfl, hb6⟩; have I6 := I5.below hb6; have hs6 := Nat.le_trans (Nat.le_trans hs4 K5.size) hb6.size; have R6 := Lib.hid (HS3.out _ w6 I6 (by have h := HPL.out; simp only [List.length_append, List.length_cons, List.length_nil]; omega) hs6 (List.replicate pd 0) (by rw [List.length_replicate]; omega)))
    | (go_at_call 28; refine R6.out.mono ?_; rintro e w7 ⟨⟨I7, K7⟩, rfl⟩; clear R6))
  have I8 : IsR H (o + 1) (bdL sl p) w7 := by rw [← BDE.out]; exact I7
  obtain ⟨g2, hg2, hgo2, ST8⟩ := I8.st (bdL_ne sl p)
  have KK : Keeps (fun k => H ≤ k ∨ k = o + 1) w3 w7 := ((K4.k.trans K5.k (fun _ _ e => e)).trans (Keeps.of_below (F := fun k => H ≤ k ∨ k = o + 1) hb6) (fun _ _ e => e)).trans K7.k (fun _ _ e => e)
  have SS := H3.out.1.keeps KK (fun e => by omega) (fun e => by omega)
  have B7 := H3.out.2.1.trans (KK.below H3.out.2.1.size (fun k hk e => by omega))
  have BB := Lib.hid (Wc.obytes_ok (o + 1) g2 (bdL sl p) w7 ST8 (bdL_ne sl p))
  have H7 := Lib.hid (And.intro SS B7)
  clear I4 K4 I5 K5 hb6 I6 I7 K7 I8 KK SS B7 H3 Y3 HS3 REP ST8 hs4 hs6
  go_upto_region 11 with (go_at_call 30; refine BB.out.mono ?_; rintro e w8 ⟨rfl, _, hk8⟩)
  have H8 := Lib.hid (And.intro (H7.out.1.keeps hk8 (fun e => by omega) (fun e => by omega)) (H7.out.2.trans (hk8.below H7.out.2.size (fun k hk e => by omega))))
  clear hk8 BB H7
  have L8 := HH.out.1.below H8.out.2 hbl
  have c1 := L8.cell 1 _ rfl
  cases sl with
  | false =>
    have eo : outL Bg Or false key c p = bdL false p := rfl
    rw [← eo]
    go_upto_region 13 with fail
    have c0 := L8.cell 0 _ rfl
    have f0 := L8.free 0
    have hcc : IntKind.u64.wrap ((c : Int) + 1) = (c : Int) + 1 := by rw [IntKind.wrap_u64]; omega
    have HN : Hid (Blk (w8.setCell ⟨b, 0, none⟩ (.int .u64 ((c : Int) + 1))) b tWr (lnC (c + 1) false key []) ∧ Keeps (fun q => q = b) w (w8.setCell ⟨b, 0, none⟩ (.int .u64 ((c : Int) + 1))) ∧ StB o g1 (szL false p) (w8.setCell ⟨b, 0, none⟩ (.int .u64 ((c : Int) + 1)))) := Lib.hid
      ⟨L8.set 0 (.int .u64 ((c : Int) + 1)), (Keeps.of_below (F := fun q => q = b) H8.out.2).set b 0 _ (fun _ => rfl), H8.out.1.keeps ((Keeps.refl (fun k => k = b) w8).set b 0 _ (fun _ => rfl)) (fun e => by omega) (fun e => by omega)⟩
    have OB := Lib.hid (Wc.obytes_ok o g1 (szL false p) _ HN.out.2.2 (szL_ne false p))
    have s1 := by8_size (szL false p)
    have s2 : (by8 (outL Bg Or false key c p)).size ≤ 7000 := by
      rw [by8_size, outL_len, HZ.out]
      have : (if false = true then 16 else 0) ≤ 16 := by decide
      omega
    have s1' : (by8 (szL false p)).size = 4 := s1
    have HA : Hid (by8 (szL false p) ++ by8 (outL Bg Or false key c p) = by8 (pktL Bg Or false key c p)) := Lib.hid (by8_app _ _)
    clear eo L8 H8
    clear s1
    go_wp2_with (go_at_call 30; refine OB.out.mono ?_; rintro e wz ⟨rfl, _, hkz⟩)
    go_ret2
    exact ⟨by rw [← HA.out]; rfl, hkz.blk HN.out.1 (fun e => by omega), HN.out.2.1.trans (hkz.mono (F := fun k => k = g1) (G := fun k => k = b ∨ k = g1) (fun _ _ e => .inr e)) (fun k hk e => e.elim id (fun e => by omega))⟩
  | true =>
    go_upto_region 12 with fail
    have LK : Hid ((byv key).length = 32) := Lib.hid (by rw [byv_len]; exact hk)
    have SZ : Hid ((Tryz.prog.info? 23).map (·.size) = some (byv key).length) := Lib.hid (by rw [LK.out]; exact arr32_size)
    have CW : Hid (∀ w', (Keeps (fun q => q = g1) (w8.drewN 1) w' ∧ StB o g1 (szL true p) w') → Below w.heap.size w w' ∧ Blk w' b tWr (lnC c true key [])) := Lib.hid fun w' h => by
      have hb := (below_drewN H8.out.2 1).trans (h.1.below (show w.heap.size ≤ (w8.drewN 1).heap.size from H8.out.2.size) (fun q hq e => by omega))
      exact ⟨hb, h.1.blk (show Blk (w8.drewN 1) b tWr _ from L8) (fun e => by omega)⟩
    have CB : Hid (∀ w' w'', (Keeps (fun q => q = g1) (w8.drewN 1) w' ∧ StB o g1 (szL true p) w') → Below w'.heap.size w' w'' → (Keeps (fun q => q = g1) (w8.drewN 1) w'' ∧ StB o g1 (szL true p) w'')) := Lib.hid fun w' w'' h hb => ⟨h.1.trans (Keeps.of_below (F := fun q => q = g1) hb) (fun _ _ e => e), h.2.below hb⟩
    refine region_quiet (C := fun w' => Keeps (fun q => q = g1) (w8.drewN 1) w' ∧ StB o g1 (szL true p) w') (by kernel_rfl) (by kernel_rfl) ⟨Keeps.refl _ _, H8.out.1.below (below_drewN (Below.refl _ _) 1)⟩ ?_
    (iterate 4 ((with_reducible refine wpQuiet_step (fun K hK => ?_)); refine quiet_autoE (by first | rfl | simp [Region.wanted, yielded]) ?_; apply Exists.intro; refine ⟨fun w' hw' => ?_, ?_⟩; (focus (go_simp; (first | done | rfl | ((try go_ints); (try simp only [↓IntWalk.iteOmega, true_and]); (try go_simp); (first | done | rfl))))); go_simp; (with_reducible apply hK); clear hK K))
    ((with_reducible refine wpQuiet_step (fun K hK => ?_)); refine quiet_loadN (b := b) (off := 2) (cs := byv key) (fun w' hw' => blk_mid (pre := [.int .u64 (c : Nat), .bool true]) (mid := byv key) (post := []) (CW.out w' hw').2) Tryz.underlying23 rfl SZ.out (by first | rfl | simp [Region.wanted, yielded]) rfl (by go_simp) ?_; go_simp; (with_reducible apply hK); clear hK K)
    (iterate 3 ((with_reducible refine wpQuiet_step (fun K hK => ?_)); refine quiet_autoE (by first | rfl | simp [Region.wanted, yielded]) ?_; apply Exists.intro; refine ⟨fun w' hw' => ?_, ?_⟩; (focus (go_simp; (first | done | rfl | ((try go_ints); (try simp only [↓IntWalk.iteOmega, true_and]); (try go_simp); (first | done | rfl))))); go_simp; (with_reducible apply hK); clear hK K))
    ((with_reducible refine wpQuiet_step (fun K hK => ?_)); refine quiet_callE (by first | rfl | simp [Region.wanted, yielded]) ?_; apply Exists.intro; apply Exists.intro; refine ⟨fun w' => ?_, ?_⟩; (focus (go_simp; try (first | exact ⟨rfl, rfl⟩ | rfl))); apply Exists.intro; refine ⟨fun w' hw' => (nonce_ok b c tWr true key [] w' (CW.out w' hw').2).mono (fun _ _ h => ⟨h.1, CB.out _ _ hw' h.2⟩), ?_⟩; go_simp; (with_reducible apply hK); clear hK K)
    (iterate 1 ((with_reducible refine wpQuiet_step (fun K hK => ?_)); refine quiet_autoE (by first | rfl | simp [Region.wanted, yielded]) ?_; apply Exists.intro; refine ⟨fun w' hw' => ?_, ?_⟩; (focus (go_simp; (first | done | rfl | ((try go_ints); (try simp only [↓IntWalk.iteOmega, true_and]); (try go_simp); (first | done | rfl))))); go_simp; (with_reducible apply hK); clear hK K))
    ((with_reducible refine wpQuiet_step (fun K hK => ?_)); refine quiet_callE (by first | rfl | simp [Region.wanted, yielded]) ?_; apply Exists.intro; apply Exists.intro; refine ⟨fun w' => ?_, ?_⟩; (focus (go_simp; try (first | exact ⟨rfl, rfl⟩ | rfl))); apply Exists.intro; refine ⟨fun w' hw' => (Wc.obytes_ok o g1 (szL true p) w' hw'.2 (szL_ne true p)).mono (fun _ _ h => ⟨h.1, hw'.1.trans h.2.2 (fun _ _ e => e), h.2.1⟩), ?_⟩; go_simp; (with_reducible apply hK); clear hK K)
    ((with_reducible refine wpQuiet_step (fun K hK => ?_)); refine quiet_callE (by first | rfl | simp [Region.wanted, yielded]) ?_; apply Exists.intro; apply Exists.intro; refine ⟨fun w' => ?_, ?_⟩; (focus (go_simp; try (first | exact ⟨rfl, rfl⟩ | rfl))); apply Exists.intro; refine ⟨fun w' hw' => (Go.Proofs.YtcbkbjpdfanjpaaGreatDoor.seal_ok Bg Or key (nonL c) (bdL true p) (szL true p) (by rw [bdL_len, HZ.out]; omega) (by unfold szL; rw [be4_len]; decide) w' (HH.out.2.2.below (CW.out w' hw').1).1 hk (nonL_len c) (HH.out.2.2.below (CW.out w' hw').1).2).mono (fun _ _ h => ⟨h.1, CB.out _ _ hw' h.2⟩), ?_⟩; go_simp; (with_reducible apply hK); clear hK K)
    (repeat ((with_reducible refine wpQuiet_step (fun K hK => ?_)); refine quiet_autoE (by first | rfl | simp [Region.wanted, yielded]) ?_; apply Exists.intro; refine ⟨fun w' hw' => ?_, ?_⟩; (focus (go_simp; (first | done | rfl | ((try go_ints); (try simp only [↓IntWalk.iteOmega, true_and]); (try go_simp); (first | done | rfl))))); go_simp; (with_reducible apply hK); clear hK K))
    refine wpQuiet_nil ?_
    intro w9 h9
    have L9 := (CW.out w9 h9).2
    have B9 := Lib.hid (CW.out w9 h9).1
    have S9 := Lib.hid h9.2
    clear h9 CW CB H8 L8 c1
    rw [show sealL Bg Or key (nonL c) (bdL true p) (szL true p) = outL Bg Or true key c p from rfl]
    go_upto_region 13 with fail
    have c0 := L9.cell 0 _ rfl
    have f0 := L9.free 0
    have hcc : IntKind.u64.wrap ((c : Int) + 1) = (c : Int) + 1 := by rw [IntKind.wrap_u64]; omega
    have HN : Hid (Blk (w9.setCell ⟨b, 0, none⟩ (.int .u64 ((c : Int) + 1))) b tWr (lnC (c + 1) true key []) ∧ Keeps (fun q => q = b) w (w9.setCell ⟨b, 0, none⟩ (.int .u64 ((c : Int) + 1))) ∧ StB o g1 (szL true p) (w9.setCell ⟨b, 0, none⟩ (.int .u64 ((c : Int) + 1)))) := Lib.hid
      ⟨L9.set 0 (.int .u64 ((c : Int) + 1)), (Keeps.of_below (F := fun q => q = b) B9.out).set b 0 _ (fun _ => rfl), S9.out.keeps ((Keeps.refl (fun k => k = b) w9).set b 0 _ (fun _ => rfl)) (fun e => by omega) (fun e => by omega)⟩
    have OB := Lib.hid (Wc.obytes_ok o g1 (szL true p) _ HN.out.2.2 (szL_ne true p))
    have s1 := by8_size (szL true p)
    have s2 : (by8 (outL Bg Or true key c p)).size ≤ 7000 := by
      rw [by8_size, outL_len, HZ.out]
      have : (if true = true then 16 else 0) ≤ 16 := by decide
      omega
    have s1' : (by8 (szL true p)).size = 4 := s1
    have HA : Hid (by8 (szL true p) ++ by8 (outL Bg Or true key c p) = by8 (pktL Bg Or true key c p)) := Lib.hid (by8_app _ _)
    clear L9 B9 S9
    clear s1
    go_wp2_with (go_at_call 30; refine OB.out.mono ?_; rintro e wz ⟨rfl, _, hkz⟩)
    go_ret2
    exact ⟨by rw [← HA.out]; rfl, hkz.blk HN.out.1 (fun e => by omega), HN.out.2.1.trans (hkz.mono (F := fun k => k = g1) (G := fun k => k = b ∨ k = g1) (fun _ _ e => .inr e)) (fun k hk e => e.elim id (fun e => by omega))⟩
end Pt
end Go.Proofs.YtcbkbjpdfanjpaaGreatDoor

namespace Go.Proofs.YtcbkbjpdfanjpaaGreatDoor.HelP
/-- one byte of a word of software -/
def okC (c : UInt8) : Bool := decide (33 ≤ c.toNat) && decide (c.toNat ≤ 126) && decide (c.toNat ≠ 45)
def wordL (l : List UInt8) : Bool := l.all okC && decide (1 ≤ l.length) && decide (l.length ≤ 64)
/-- without its return -/
def trimR (l : List UInt8) : List UInt8 := if List.isSuffixOf [13] l then l.take (l.length - 1) else l
def ssh : List UInt8 := [83, 83, 72, 45]
def now : List UInt8 := [83, 83, 72, 45, 50, 46, 48, 45]
def old : List UInt8 := [83, 83, 72, 45, 49, 46, 57, 57, 45]
def upTo (c : UInt8) (l : List UInt8) : List UInt8 := l.takeWhile (fun x => decide (x ≠ c))
def verOk (l : List UInt8) : Bool :=
  if now.isPrefixOf l then wordL (upTo 32 (l.drop 8)) else if old.isPrefixOf l then wordL (upTo 32 (l.drop 9)) else false
inductive St where
  | wait (part : List UInt8) (more : Nat)
  | done (peer : List UInt8)
  | err (code : Nat)
  /-- a whole line -/
def lineSt (l : List UInt8) (more : Nat) : St :=
  if 0 ∈ l then .err 3 else if ssh.isPrefixOf l then (if verOk l then .done l else .err 12) else if more = 0 then .err 12 else .wait [] (more - 1)
def run : List UInt8 → St → St × List UInt8
  | [], s => (s, [])
  | c :: cs, .wait p m => if c = 10 then run cs (lineSt (trimR p) m) else if 254 < p.length + 1 then run cs (.err 4) else run cs (.wait (p ++ [c]) m)
  | c :: cs, .done q => (.done q, c :: cs)
  | _ :: cs, .err e => run cs (.err e)
theorem run_done (q : List UInt8) : ∀ l, run l (.done q) = (.done q, l)
  | [] => rfl
  | _ :: _ => rfl
theorem run_err (e : Nat) : ∀ l, run l (.err e) = (.err e, [])
  | [] => rfl
  | _ :: cs => by show run cs (.err e) = _; exact run_err e cs
/-- a piece of a line -/
theorem run_part (m : Nat) (r : List UInt8) : ∀ (l p : List UInt8), 10 ∉ l → p.length ≤ 254 → run (l ++ r) (.wait p m) = if 254 < (p ++ l).length then (.err 4, []) else run r (.wait (p ++ l) m)
  | [], p, _, hp => by
    rw [if_neg (by simp; omega)]
    simp
  | c :: cs, p, hn, hp => by
    have hc : c ≠ 10 := fun h => hn (by simp [h])
    have hcs : 10 ∉ cs := fun h => hn (by simp [h])
    show (if c = 10 then run (cs ++ r) (lineSt (trimR p) m) else if 254 < p.length + 1 then run (cs ++ r) (.err 4) else run (cs ++ r) (.wait (p ++ [c]) m)) = _
    rw [if_neg hc]
    by_cases h : 254 < p.length + 1
    · rw [if_pos h, run_err, if_pos (by simp; omega)]
    · rw [if_neg h, run_part m r cs (p ++ [c]) hcs (by simp; omega)]
      simp
/-- a whole line -/
theorem run_line (m : Nat) (r l p : List UInt8) (hn : 10 ∉ l) (hp : p.length ≤ 254) (hl : (p ++ l).length ≤ 254) : run (l ++ 10 :: r) (.wait p m) = run r (lineSt (trimR (p ++ l)) m) := by
  rw [run_part m (10 :: r) l p hn hp, if_neg (by omega)]
  rfl
/-- what follows -/
def cont (b : List UInt8) : St × List UInt8 → St × List UInt8
  | (.done q, rest) => (.done q, rest ++ b)
  | (.wait p m, _) => run b (.wait p m)
  | (.err e, _) => run b (.err e)
theorem run_app : ∀ (a b : List UInt8) (s : St), run (a ++ b) s = cont b (run a s)
  | [], b, .wait p m => rfl
  | [], b, .done q => run_done q b
  | [], b, .err e => rfl
  | c :: cs, b, .wait p m => by
    show (if c = 10 then run (cs ++ b) (lineSt (trimR p) m) else if 254 < p.length + 1 then run (cs ++ b) (.err 4) else run (cs ++ b) (.wait (p ++ [c]) m)) = cont b (if c = 10 then run cs (lineSt (trimR p) m) else if 254 < p.length + 1 then run cs (.err 4) else run cs (.wait (p ++ [c]) m))
    by_cases hc : c = 10
    · rw [if_pos hc, if_pos hc]; exact run_app cs b _
    · rw [if_neg hc, if_neg hc]
      by_cases h : 254 < p.length + 1
      · rw [if_pos h, if_pos h]; exact run_app cs b _
      · rw [if_neg h, if_neg h]; exact run_app cs b _
  | c :: cs, b, .done q => rfl
  | c :: cs, b, .err e => run_app cs b (.err e)
/-- a line waited for is short -/
def fit : St → Prop
  | .wait p _ => p.length ≤ 254
  | .done q => q ≠ []
  | .err e => e = 3 ∨ e = 4 ∨ e = 12
theorem fit_line (l : List UInt8) (m : Nat) : fit (lineSt l m) := by
  unfold lineSt
  split
  · exact .inl rfl
  · split
    · rename_i h
      split
      · show l ≠ []
        intro e
        rw [e] at h
        exact absurd h (by decide)
      · exact .inr (.inr rfl)
    · split
      · exact .inr (.inr rfl)
      · show (0 : Nat) ≤ 254; omega
theorem fit_run : ∀ (l : List UInt8) (s : St), fit s → fit (run l s).1
  | [], _, h => h
  | c :: cs, .wait p m, h => by
    show fit (if c = 10 then run cs (lineSt (trimR p) m) else if 254 < p.length + 1 then run cs (.err 4) else run cs (.wait (p ++ [c]) m)).1
    by_cases hc : c = 10
    · rw [if_pos hc]; exact fit_run cs _ (fit_line _ _)
    · rw [if_neg hc]
      by_cases h2 : 254 < p.length + 1
      · rw [if_pos h2]; exact fit_run cs _ (.inr (.inl rfl))
      · rw [if_neg h2]; exact fit_run cs _ (by show (p ++ [c]).length ≤ 254; simp; omega)
  | c :: cs, .done q, h => h
  | c :: cs, .err e, h => fit_run cs _ h
theorem upTo_mem {c : UInt8} : ∀ {l : List UInt8}, c ∈ l → l = upTo c l ++ c :: l.drop ((upTo c l).length + 1)
  | [], h => by cases h
  | x :: l, h => by
    by_cases hx : x = c
    · subst hx
      simp [upTo]
    · have hm : c ∈ l := by
        rcases List.mem_cons.1 h with e | e
        · exact absurd e.symm hx
        · exact e
      have e : upTo c (x :: l) = x :: upTo c l := by simp [upTo, hx]
      rw [e]
      show x :: l = x :: (upTo c l ++ c :: l.drop ((upTo c l).length + 1))
      rw [← upTo_mem hm]
theorem upTo_not {c : UInt8} : ∀ {l : List UInt8}, c ∉ l → upTo c l = l
  | [], _ => rfl
  | x :: l, h => by
    have hx : x ≠ c := fun e => h (by simp [e])
    have hl : c ∉ l := fun e => h (by simp [e])
    have e : upTo c (x :: l) = x :: upTo c l := by simp [upTo, hx]
    rw [e, upTo_not hl]
theorem upTo_free (c : UInt8) : ∀ l : List UInt8, c ∉ upTo c l
  | [] => by simp [upTo]
  | x :: l => by
    by_cases hx : x = c
    · simp [upTo, hx]
    · have e : upTo c (x :: l) = x :: upTo c l := by simp [upTo, hx]
      rw [e]
      intro h
      rcases List.mem_cons.1 h with e | e
      · exact hx e.symm
      · exact upTo_free c l e
theorem upTo_take (c : UInt8) : ∀ l : List UInt8, l.take (upTo c l).length = upTo c l
  | [] => rfl
  | x :: l => by
    by_cases hx : x = c
    · simp [upTo, hx]
    · have e : upTo c (x :: l) = x :: upTo c l := by simp [upTo, hx]
      rw [e]
      show x :: l.take (upTo c l).length = _
      rw [upTo_take c l]
/-- what is read out of a chunk: a whole line, or a part of one -/
theorem run_cut (m : Nat) (l p : List UInt8) (hp : p.length ≤ 254) : run l (.wait p m) =
    if 254 < (p ++ upTo 10 l).length then (.err 4, []) else if 10 ∈ l then run (l.drop ((upTo 10 l).length + 1)) (lineSt (trimR (p ++ upTo 10 l)) m) else (.wait (p ++ l) m, []) := by
  by_cases h : (10 : UInt8) ∈ l
  · have e := upTo_mem h
    by_cases h2 : 254 < (p ++ upTo 10 l).length
    · rw [if_pos h2]
      conv => lhs; rw [e]
      rw [run_part m _ _ p (upTo_free 10 l) hp, if_pos h2]
    · rw [if_neg h2, if_pos h]
      conv => lhs; rw [e]
      exact run_line m _ _ p (upTo_free 10 l) hp (by omega)
  · rw [upTo_not h]
    have e := run_part m [] l p h hp
    rw [List.append_nil] at e
    rw [e]
    by_cases h2 : 254 < (p ++ l).length
    · rw [if_pos h2, if_pos h2]
    · rw [if_neg h2, if_neg h2, if_neg h]; rfl
end Go.Proofs.YtcbkbjpdfanjpaaGreatDoor.HelP
