/-
packet: the next payload of what a reader holds.
-/
import Derived.BigQuiet
import Derived.Test.YtcbkbjpdfanjpaaGreatDoorPk29
namespace Go.Proofs.YtcbkbjpdfanjpaaGreatDoor
open Go.RowKit
set_option maxRecDepth 100000
namespace Pt
open Cha Pol
set_option maxHeartbeats 4000000 in
theorem nextA_ok (b c : Nat) (sl : Bool) (key s : S) (w : World) (h : Blk w b tRd (rdC c sl key s)) (hk : key.length = 32) (hs : s.length < 4) :
    Calls Tryz.prog 14 #[.pointer (some ⟨b, 0, none⟩)] w fun e w' => e = .returned (.tuple #[.string (by8 []), .bool false, .nilIface]) ∧ Blk w' b tRd (rdC c sl key s) ∧ Below w.heap.size w w' := by
  obtain ⟨c34, c35⟩ := rd_cells h hk
  have hsz := by8_size s
  have HH := Lib.hid h
  clear h
  go_enter Tryz.func14, Tryz.ntmps14
  go_upto_region 2 with fail
  go_quiet (fail)
  go_wp2_with fail
  refine bodyPost_ret (results_tmp3 rfl _ _ _) rfl ?_
  exact ⟨rfl, HH.out.drew _, below_drewN (Below.refl _ _) _⟩
/-- what of a packet is there -/
theorem take4 {Bg : List Int} {Or : List Nat} {sl : Bool} {key p s R : S} {c : Nat} (h4 : 4 ≤ s.length) (h : ∃ T, s ++ R = pktL Bg Or sl key c p ++ T) : s = Ms.be4 (szN sl p) ++ s.drop 4 := by
  obtain ⟨T, h⟩ := h
  have e : s.take 4 = szL sl p := by
    have h1 := congrArg (List.take 4) h
    rw [List.take_append_of_le_length h4] at h1
    unfold pktL at h1
    rw [List.append_assoc, List.take_left' (show (szL sl p).length = 4 from rfl)] at h1
    exact h1
  have := List.take_append_drop 4 s
  rw [e] at this
  exact this.symm
theorem sz_lt (sl : Bool) (p : S) (hp : p.length ≤ 6000) : szN sl p ≤ 6012 := by have := pd_ok sl p; unfold szN; omega
theorem sz_ge (sl : Bool) (p : S) (hp : p ≠ []) : ahN sl * 2 + 8 ≤ szN sl p + ahN sl := by
  have h := pd_ok sl p
  have h0 : 1 ≤ p.length := by
    cases p with
    | nil => exact absurd rfl hp
    | cons _ _ => simp
  have hz : szN sl p = p.length + 1 + pdN sl p := rfl
  cases sl
  · have e : ahN false = 4 := rfl
    rw [e] at h ⊢
    omega
  · have e : ahN true = 0 := rfl
    rw [e] at h ⊢
    omega
set_option maxHeartbeats 16000000 in
theorem nextB_ok (Bg : List Int) (Or : List Nat) (b c : Nat) (sl : Bool) (key s p R : S) (w : World) (h : Blk w b tRd (rdC c sl key s)) (hk : key.length = 32) (hs : 4 ≤ s.length) (hl : s.length ≤ 900000) (hp0 : p ≠ []) (hp : p.length ≤ 6000) (hT : ∃ T, s ++ R = pktL Bg Or sl key c p ++ T) (hsh : s.length < (pktL Bg Or sl key c p).length) :
    Calls Tryz.prog 14 #[.pointer (some ⟨b, 0, none⟩)] w fun e w' => e = .returned (.tuple #[.string (by8 []), .bool false, .nilIface]) ∧ Blk w' b tRd (rdC c sl key s) ∧ Below w.heap.size w w' := by
  obtain ⟨c34, c35⟩ := rd_cells h hk
  have hsz := by8_size s
  have hse := take4 hs hT
  have z1 := sz_lt sl p hp
  have z2 := sz_ge sl p hp0
  have z3 := (pd_ok sl p).2.2
  rw [pktL_len] at hsh
  have OF := Lib.hid (fun w' => Wi.of_ok s w')
  have UO : Hid (∀ ib w', Wi.IN w' ib s → Calls Tryz.prog 47 #[.pointer (some ⟨ib, 0, none⟩)] w' fun e w'' => e = .returned (.int .u32 (szN sl p : Nat)) ∧ Keeps (fun q => q = ib) w' w'') := Lib.hid fun ib w' hi => by
    rw [hse] at hi
    refine (Wi.u32_ok ib (szN sl p) (s.drop 4) w' hi (by omega) (by rw [List.length_drop]; omega)).mono ?_
    rintro e w'' ⟨rfl, _, hk'⟩
    exact ⟨rfl, hk'⟩
  have HH := Lib.hid h
  have AH : Hid (∀ w', Below w.heap.size w w' → Calls Tryz.prog 25 #[.pointer (some ⟨b, 0, none⟩)] w' fun e w'' => e = .returned (.int .i64 (ahN sl : Nat)) ∧ w' = w'') := Lib.hid fun w' hb => ahead_ok b c tRd sl key _ w' (h.below hb h.lt)
  obtain ⟨n, hn⟩ : ∃ n, n = szN sl p := ⟨_, rfl⟩
  obtain ⟨ah, hah⟩ : ∃ ah, ah = ahN sl := ⟨_, rfl⟩
  have hah4 : ah ≤ 4 := by rw [hah]; cases sl <;> decide
  rw [← hn] at z1 z2 z3 hsh UO
  rw [← hah] at z2 z3 AH
  have z3' : ((n : Int) + (ah : Int)).tmod 8 = 0 := by rw [Int.tmod_eq_emod_of_nonneg (by omega)]; omega
  have z3'' : ((n : Int) + (ah : Int)) % 8 = 0 := by omega
  have hbl := h.lt
  clear h hse hT hn hah z3
  go_enter Tryz.func14, Tryz.ntmps14
  go_upto_region 4 with (first | (go_at_call 46; refine (OF.out _).mono ?_; rintro e w2 ⟨rfl, hi2, hb2⟩; have U2 := Lib.hid (UO.out _ _ hi2)) | (go_at_call 47; refine U2.out.mono ?_; rintro e w3 ⟨rfl, hk3⟩))
  have B3 := Lib.hid (hb2.trans (hk3.below hb2.size (fun q hq e => by omega)))
  clear hb2 hk3 hi2 U2 OF UO
  have BD : Hid (Below w.heap.size w w3.drew) := Lib.hid (below_drewN B3.out 1)
  have c1 := (HH.out.below B3.out hbl).cell 1 _ rfl
  have W1 : Hid (IntKind.i64.wrap ((n : Int) + (ah : Int)) = (n : Int) + (ah : Int)) := Lib.hid (by rw [IntKind.wrap_i64]; omega)
  have W2 : Hid (IntKind.i64.wrap ((ah : Int) * 2) = (ah : Int) * 2) := Lib.hid (by rw [IntKind.wrap_i64]; omega)
  have W3 : Hid (IntKind.i64.wrap ((ah : Int) * 2 + 8) = (ah : Int) * 2 + 8) := Lib.hid (by rw [IntKind.wrap_i64]; omega)
  go_upto_region 6 with fail
  (refine region_quiet (C := fun w' => Rw (w3.drewN 1) w') (by kernel_rfl) (by kernel_rfl) (Rw.refl _) ?_)
  (iterate 4 ((with_reducible refine wpQuiet_step (fun K hK => ?_)); refine quiet_autoE (by first | rfl | simp [Region.wanted, yielded]) ?_; apply Exists.intro; refine ⟨fun w' hw' => ?_, ?_⟩; (focus (go_simp; (first | done | rfl | ((try go_ints); (try simp only [↓IntWalk.iteOmega, true_and]); (try go_simp); (first | done | rfl))))); go_simp; (with_reducible apply hK); clear hK K))
  ((with_reducible refine wpQuiet_step (fun K hK => ?_)); refine quiet_callE (by first | rfl | simp [Region.wanted, yielded]) ?_; apply Exists.intro; apply Exists.intro; refine ⟨fun w' => ?_, ?_⟩; (focus (go_simp; try (first | exact ⟨rfl, rfl⟩ | rfl))); apply Exists.intro; refine ⟨fun w' hw' => quiet_same hw' (AH.out w' (Rw.out BD.out hw')), ?_⟩; go_simp; (with_reducible apply hK); clear hK K)
  ((with_reducible refine wpQuiet_step (fun K hK => ?_)); refine quiet_plainG (.int .i64 ((n : Int) + (ah : Int))) (by first | rfl | simp [Region.wanted, yielded]) (fun w' hw' => by go_simp; rw [W1.out]) ?_; go_simp; (with_reducible apply hK); clear hK K)
  (iterate 3 ((with_reducible refine wpQuiet_step (fun K hK => ?_)); refine quiet_autoE (by first | rfl | simp [Region.wanted, yielded]) ?_; apply Exists.intro; refine ⟨fun w' hw' => ?_, ?_⟩; (focus (go_simp; (first | done | rfl | ((try go_ints); (try simp only [↓IntWalk.iteOmega, true_and]); (try go_simp); (first | done | rfl))))); go_simp; (with_reducible apply hK); clear hK K))
  ((with_reducible refine wpQuiet_step (fun K hK => ?_)); refine quiet_callE (by first | rfl | simp [Region.wanted, yielded]) ?_; apply Exists.intro; apply Exists.intro; refine ⟨fun w' => ?_, ?_⟩; (focus (go_simp; try (first | exact ⟨rfl, rfl⟩ | rfl))); apply Exists.intro; refine ⟨fun w' hw' => quiet_same hw' (AH.out w' (Rw.out BD.out hw')), ?_⟩; go_simp; (with_reducible apply hK); clear hK K)
  ((with_reducible refine wpQuiet_step (fun K hK => ?_)); refine quiet_plainG (.int .i64 ((ah : Int) * 2)) (by first | rfl | simp [Region.wanted, yielded]) (fun w' hw' => by go_simp; rw [W2.out]) ?_; go_simp; (with_reducible apply hK); clear hK K)
  ((with_reducible refine wpQuiet_step (fun K hK => ?_)); refine quiet_plainG (.int .i64 ((ah : Int) * 2 + 8)) (by first | rfl | simp [Region.wanted, yielded]) (fun w' hw' => by go_simp; rw [W3.out]) ?_; go_simp; (with_reducible apply hK); clear hK K)
  ((with_reducible refine wpQuiet_step (fun K hK => ?_)); refine quiet_plainG (.bool false) (by first | rfl | simp [Region.wanted, yielded]) (fun w' hw' => by go_simp; omega) ?_; go_simp; (with_reducible apply hK); clear hK K)
  (repeat ((with_reducible refine wpQuiet_step (fun K hK => ?_)); refine quiet_autoE (by first | rfl | simp [Region.wanted, yielded]) ?_; apply Exists.intro; refine ⟨fun w' hw' => ?_, ?_⟩; (focus (go_simp; (first | done | rfl | ((try go_ints); (try simp only [↓IntWalk.iteOmega, true_and]); (try go_simp); (first | done | rfl))))); go_simp; (with_reducible apply hK); clear hK K))
  refine wpQuiet_nil ?_
  intro w4 h4
  have B4 := Lib.hid (Rw.out BD.out h4)
  have L4 := Lib.hid (HH.out.below B4.out hbl)
  have AC := Lib.hid (AH.out w4 B4.out)
  have c1' := L4.out.cell 1 _ rfl
  have c34' := (rd_cells L4.out hk).1
  have z0 : ((33024 : Int) < (n : Int)) = False := eq_false (by omega)
  clear h4 BD B3 c1 c34 c35 AH
  cases sl
  · have hsh' : s.length < 4 + n := hsh
    clear hsh
    go_wp2_with (go_at_call 25; refine AC.out.mono ?_; rintro e w5 ⟨rfl, rfl⟩)
    refine bodyPost_ret (results_tmp3 rfl _ _ _) rfl ?_
    exact ⟨rfl, L4.out, B4.out⟩
  · have hsh' : s.length < 4 + n + 16 := hsh
    clear hsh
    go_wp2_with (go_at_call 25; refine AC.out.mono ?_; rintro e w5 ⟨rfl, rfl⟩)
    refine bodyPost_ret (results_tmp3 rfl _ _ _) rfl ?_
    exact ⟨rfl, L4.out, B4.out⟩
set_option maxHeartbeats 16000000 in
theorem nextC_ok (Bg : List Int) (Or : List Nat) (b c : Nat) (sl : Bool) (key p T : S) (w : World) (h : Blk w b tRd (rdC c sl key (pktL Bg Or sl key c p ++ T))) (hk : key.length = 32) (hP : PC Bg Or w) (hl : (pktL Bg Or sl key c p ++ T).length ≤ 900000) (hc9 : c < 1000000) (hp0 : p ≠ []) (hp : p.length ≤ 6000) :
    Calls Tryz.prog 14 #[.pointer (some ⟨b, 0, none⟩)] w fun e w' => e = .returned (.tuple #[.string (by8 p), .bool true, .nilIface]) ∧ Blk w' b tRd (rdC (c + 1) sl key T) ∧ Keeps (fun q => q = b) w w' := by
  have hpl := pktL_len Bg Or sl key c p
  obtain ⟨s, hs0⟩ : ∃ s, s = pktL Bg Or sl key c p ++ T := ⟨_, rfl⟩
  rw [← hs0] at h hl
  have hs : 4 ≤ s.length := by rw [hs0, List.length_append]; omega
  have hse := take4 (R := []) hs ⟨T, by rw [List.append_nil]; exact hs0⟩
  obtain ⟨c34, c35⟩ := rd_cells h hk
  have hsz := by8_size s
  have z1 := sz_lt sl p hp
  have z2 := sz_ge sl p hp0
  have z3 := (pd_ok sl p).2.2
  have hsl : s.length = 4 + szN sl p + (if sl then 16 else 0) + T.length := by rw [hs0, List.length_append, hpl]
  have E1 : Hid ((by8 s).extract 0 4 = by8 (szL sl p)) := Lib.hid (by
    rw [by8_take, hs0]
    unfold pktL
    rw [List.append_assoc, List.take_left' (show (szL sl p).length = 4 from rfl)])
  have E2 : Hid (∀ m, m = 4 + szN sl p + (if sl then 16 else 0) → (by8 s).extract 4 m = by8 (outL Bg Or sl key c p)) := Lib.hid fun m hm => by
    rw [by8_mid, hs0]
    unfold pktL
    rw [List.append_assoc, List.drop_left' (show (szL sl p).length = 4 from rfl), List.take_left' (by rw [outL_len]; omega)]
  have E3 : Hid (∀ m, m = 4 + szN sl p + (if sl then 16 else 0) → (by8 s).extract m (by8 s).size = by8 T) := Lib.hid fun m hm => by
    rw [by8_drop _ _ _ (by8_size s), hs0, List.drop_left' (by rw [hpl]; exact hm.symm)]
  have BO : Hid (∀ w', Below w.heap.size w w' → Calls Tryz.prog 49 #[.pointer (some ⟨b, 0, none⟩), .string (by8 (szL sl p)), .string (by8 (outL Bg Or sl key c p))] w' fun e w'' => e = .returned (.tuple #[.string (by8 (bdL sl p)), .nilIface]) ∧ Below w'.heap.size w' w'') := Lib.hid fun w' hb => body_ok Bg Or b c sl key s p w' (h.below hb h.lt) hk (hP.below hb) (by omega)
  have hpd := pd_ok sl p
  obtain ⟨pd, hpd0⟩ : ∃ pd, pd = pdN sl p := ⟨_, rfl⟩
  have hszn : szN sl p = p.length + 1 + pd := by rw [hpd0]; rfl
  have E4 : Hid ((by8 (bdL sl p)).size = szN sl p ∧ ((by8 (bdL sl p)).extract 1 (szN sl p - pd) = by8 p) ∧ ∀ h0 : 0 < (by8 (bdL sl p)).size, (((by8 (bdL sl p))[0]'h0).toNat : Int) = (pd : Nat)) := Lib.hid ⟨by rw [by8_size, bdL_len], by
    rw [by8_mid, hszn, show p.length + 1 + pd - pd = p.length + 1 by omega]
    have hb := Ms.body_pay p (pdN sl p)
    have e : (bdL sl p).drop 1 = ((p ++ List.replicate (pdN sl p) 0)) := rfl
    rw [e, show p.length + 1 - 1 = p.length by omega, List.take_left' rfl], fun h0 => by
    rw [by_index]
    show ((UInt8.ofNat (pdN sl p)).toNat : Int) = _
    rw [UInt8.toNat_ofNat', hpd0]
    omega⟩
  rw [← hpd0] at hpd
  have hp1 : 1 ≤ p.length := by
    cases p with
    | nil => exact absurd rfl hp0
    | cons _ _ => simp
  obtain ⟨SZ, hSZ⟩ : ∃ SZ, SZ = by8 (szL sl p) := ⟨_, rfl⟩
  obtain ⟨OUT, hOUT⟩ : ∃ OUT, OUT = by8 (outL Bg Or sl key c p) := ⟨_, rfl⟩
  obtain ⟨BD9, hBD⟩ : ∃ BD9, BD9 = by8 (bdL sl p) := ⟨_, rfl⟩
  rw [← hSZ] at E1 BO
  rw [← hOUT] at E2 BO
  rw [← hBD] at E4 BO
  clear hSZ hOUT hBD hpd0 hs0 hpl
  have OF := Lib.hid (fun w' => Wi.of_ok s w')
  have UO : Hid (∀ ib w', Wi.IN w' ib s → Calls Tryz.prog 47 #[.pointer (some ⟨ib, 0, none⟩)] w' fun e w'' => e = .returned (.int .u32 (szN sl p : Nat)) ∧ Keeps (fun q => q = ib) w' w'') := Lib.hid fun ib w' hi => by
    rw [hse] at hi
    refine (Wi.u32_ok ib (szN sl p) (s.drop 4) w' hi (by omega) (by rw [List.length_drop]; omega)).mono ?_
    rintro e w'' ⟨rfl, _, hk'⟩
    exact ⟨rfl, hk'⟩
  have HH := Lib.hid h
  have AH : Hid (∀ w', Below w.heap.size w w' → Calls Tryz.prog 25 #[.pointer (some ⟨b, 0, none⟩)] w' fun e w'' => e = .returned (.int .i64 (ahN sl : Nat)) ∧ w' = w'') := Lib.hid fun w' hb => ahead_ok b c tRd sl key _ w' (h.below hb h.lt)
  obtain ⟨n, hn⟩ : ∃ n, n = szN sl p := ⟨_, rfl⟩
  obtain ⟨ah, hah⟩ : ∃ ah, ah = ahN sl := ⟨_, rfl⟩
  have hah4 : ah ≤ 4 := by rw [hah]; cases sl <;> decide
  rw [← hn] at z1 z2 z3 UO hsl E2 E3 E4 hszn
  have HSN := Lib.hid hszn
  have HSL := Lib.hid hsl
  have hpn : pd + 1 < n := by omega
  have hpd1 : 4 ≤ pd ∧ pd ≤ 11 := ⟨hpd.1, hpd.2.1⟩
  clear hszn hpd hsl
  rw [← hah] at z2 z3 AH
  have z3' : ((n : Int) + (ah : Int)).tmod 8 = 0 := by rw [Int.tmod_eq_emod_of_nonneg (by omega)]; omega
  have z3'' : ((n : Int) + (ah : Int)) % 8 = 0 := by omega
  have hbl := h.lt
  clear h hse hn hah z3 hP
  go_enter Tryz.func14, Tryz.ntmps14
  go_upto_region 4 with (first | (go_at_call 46; refine (OF.out _).mono ?_; rintro e w2 ⟨rfl, hi2, hb2⟩; have U2 := Lib.hid (UO.out _ _ hi2)) | (go_at_call 47; refine U2.out.mono ?_; rintro e w3 ⟨rfl, hk3⟩))
  have B3 := Lib.hid (hb2.trans (hk3.below hb2.size (fun q hq e => by omega)))
  clear hb2 hk3 hi2 U2 OF UO
  have BD : Hid (Below w.heap.size w w3.drew) := Lib.hid (below_drewN B3.out 1)
  have c1 := (HH.out.below B3.out hbl).cell 1 _ rfl
  have W1 : Hid (IntKind.i64.wrap ((n : Int) + (ah : Int)) = (n : Int) + (ah : Int)) := Lib.hid (by rw [IntKind.wrap_i64]; omega)
  have W2 : Hid (IntKind.i64.wrap ((ah : Int) * 2) = (ah : Int) * 2) := Lib.hid (by rw [IntKind.wrap_i64]; omega)
  have W3 : Hid (IntKind.i64.wrap ((ah : Int) * 2 + 8) = (ah : Int) * 2 + 8) := Lib.hid (by rw [IntKind.wrap_i64]; omega)
  go_upto_region 6 with fail
  (refine region_quiet (C := fun w' => Rw (w3.drewN 1) w') (by kernel_rfl) (by kernel_rfl) (Rw.refl _) ?_)
  (iterate 4 ((with_reducible refine wpQuiet_step (fun K hK => ?_)); refine quiet_autoE (by first | rfl | simp [Region.wanted, yielded]) ?_; apply Exists.intro; refine ⟨fun w' hw' => ?_, ?_⟩; (focus (go_simp; (first | done | rfl | ((try go_ints); (try simp only [↓IntWalk.iteOmega, true_and]); (try go_simp); (first | done | rfl))))); go_simp; (with_reducible apply hK); clear hK K))
  ((with_reducible refine wpQuiet_step (fun K hK => ?_)); refine quiet_callE (by first | rfl | simp [Region.wanted, yielded]) ?_; apply Exists.intro; apply Exists.intro; refine ⟨fun w' => ?_, ?_⟩; (focus (go_simp; try (first | exact ⟨rfl, rfl⟩ | rfl))); apply Exists.intro; refine ⟨fun w' hw' => quiet_same hw' (AH.out w' (Rw.out BD.out hw')), ?_⟩; go_simp; (with_reducible apply hK); clear hK K)
  ((with_reducible refine wpQuiet_step (fun K hK => ?_)); refine quiet_plainG (.int .i64 ((n : Int) + (ah : Int))) (by first | rfl | simp [Region.wanted, yielded]) (fun w' hw' => by go_simp; rw [W1.out]) ?_; go_simp; (with_reducible apply hK); clear hK K)
  (iterate 3 ((with_reducible refine wpQuiet_step (fun K hK => ?_)); refine quiet_autoE (by first | rfl | simp [Region.wanted, yielded]) ?_; apply Exists.intro; refine ⟨fun w' hw' => ?_, ?_⟩; (focus (go_simp; (first | done | rfl | ((try go_ints); (try simp only [↓IntWalk.iteOmega, true_and]); (try go_simp); (first | done | rfl))))); go_simp; (with_reducible apply hK); clear hK K))
  ((with_reducible refine wpQuiet_step (fun K hK => ?_)); refine quiet_callE (by first | rfl | simp [Region.wanted, yielded]) ?_; apply Exists.intro; apply Exists.intro; refine ⟨fun w' => ?_, ?_⟩; (focus (go_simp; try (first | exact ⟨rfl, rfl⟩ | rfl))); apply Exists.intro; refine ⟨fun w' hw' => quiet_same hw' (AH.out w' (Rw.out BD.out hw')), ?_⟩; go_simp; (with_reducible apply hK); clear hK K)
  ((with_reducible refine wpQuiet_step (fun K hK => ?_)); refine quiet_plainG (.int .i64 ((ah : Int) * 2)) (by first | rfl | simp [Region.wanted, yielded]) (fun w' hw' => by go_simp; rw [W2.out]) ?_; go_simp; (with_reducible apply hK); clear hK K)
  ((with_reducible refine wpQuiet_step (fun K hK => ?_)); refine quiet_plainG (.int .i64 ((ah : Int) * 2 + 8)) (by first | rfl | simp [Region.wanted, yielded]) (fun w' hw' => by go_simp; rw [W3.out]) ?_; go_simp; (with_reducible apply hK); clear hK K)
  ((with_reducible refine wpQuiet_step (fun K hK => ?_)); refine quiet_plainG (.bool false) (by first | rfl | simp [Region.wanted, yielded]) (fun w' hw' => by go_simp; omega) ?_; go_simp; (with_reducible apply hK); clear hK K)
  (repeat ((with_reducible refine wpQuiet_step (fun K hK => ?_)); refine quiet_autoE (by first | rfl | simp [Region.wanted, yielded]) ?_; apply Exists.intro; refine ⟨fun w' hw' => ?_, ?_⟩; (focus (go_simp; (first | done | rfl | ((try go_ints); (try simp only [↓IntWalk.iteOmega, true_and]); (try go_simp); (first | done | rfl))))); go_simp; (with_reducible apply hK); clear hK K))
  refine wpQuiet_nil ?_
  intro w4 h4
  have B4 := Lib.hid (Rw.out BD.out h4)
  have L4 := Lib.hid (HH.out.below B4.out hbl)
  have AC := Lib.hid (AH.out w4 B4.out)
  have c1' := L4.out.cell 1 _ rfl
  have c34' := (rd_cells L4.out hk).1
  have z0 : ((33024 : Int) < (n : Int)) = False := eq_false (by omega)
  clear h4 BD B3 c1 c34 c35 AH
  have BO4 : Hid (∀ w', Below w4.heap.size w4 w' → Calls Tryz.prog 49 #[.pointer (some ⟨b, 0, none⟩), .string SZ, .string OUT] w' fun e w'' => e = .returned (.tuple #[.string BD9, .nilIface]) ∧ Below w'.heap.size w' w'') := Lib.hid fun w' hb => BO.out w' (B4.out.trans (hb.mono B4.out.size))
  have W5 : Hid (∀ w', Below w4.heap.size w4 w' → w'.cell? ⟨b, 34, none⟩ = some (.string (by8 s)) ∧ w'.frozen? ⟨b, 34, none⟩ = false ∧ w'.cell? ⟨b, 0, none⟩ = some (.int .u64 (c : Nat)) ∧ w'.frozen? ⟨b, 0, none⟩ = false ∧
      (Blk ((w'.setCell ⟨b, 34, none⟩ (.string (by8 T))).setCell ⟨b, 0, none⟩ (.int .u64 ((c : Int) + 1))) b tRd (rdC (c + 1) sl key T)) ∧ Keeps (fun q => q = b) w ((w'.setCell ⟨b, 34, none⟩ (.string (by8 T))).setCell ⟨b, 0, none⟩ (.int .u64 ((c : Int) + 1)))) := Lib.hid fun w' hb => by
    have L := L4.out.below hb L4.out.lt
    have hb34 := rd_set (s' := T) L hk
    refine ⟨(rd_cells L hk).1, L.free 34, L.cell 0 _ rfl, L.free 0, ?_, ?_⟩
    · have := hb34.set 0 (.int .u64 ((c : Int) + 1))
      exact this
    · exact ((((Keeps.of_below (F := fun q => q = b) (B4.out.trans (hb.mono B4.out.size)))).set b 34 _ (fun _ => rfl)).set b 0 _ (fun _ => rfl))
  clear BO
  cases sl
  · have m0 : Hid ((4 + n) = 4 + n + (if false then 16 else 0)) := Lib.hid rfl
    obtain ⟨M, hM⟩ : ∃ M : Nat, M = (4 + n) := ⟨_, rfl⟩
    have hMi : (4 + (n : Int) : Int) = (M : Int) := by omega
    have hln : M ≤ s.length := by have h := HSL.out; simp at h; omega
    have e2 := Lib.hid (E2.out M (by rw [hM]; exact m0.out))
    have e3 := Lib.hid (E3.out M (by rw [hM]; exact m0.out))
    clear hM m0 E2 E3
    have hlf : ((s.length : Int) < 4 + (n : Int)) = False := eq_false (by omega)
    go_upto_region 14 with (go_at_call 25; refine AC.out.mono ?_; rintro e w5 ⟨rfl, rfl⟩)
    have HMI := Lib.hid hMi
    clear hMi hlf z0 c1' c34' AC
    have d34 : ∀ w', Below w4.drew.heap.size w4.drew w' → w'.cell? ⟨b, 34, none⟩ = some (.string (by8 s)) := fun w' hb => (W5.out w' (Rw.trans (below_drewN (Below.refl w4.heap.size w4) 1) hb)).1
    have BDW : Hid (Below w4.heap.size w4 w4.drew) := Lib.hid (below_drewN (Below.refl _ _) 1)
    have hM4 : 4 ≤ M := by have := HMI.out; omega
    (refine region_quiet (C := fun w' => Rw (w4.drewN 1) w') (by kernel_rfl) (by kernel_rfl) (Rw.refl _) ?_)
    (iterate 4 ((with_reducible refine wpQuiet_step (fun K hK => ?_)); refine quiet_autoE (by first | rfl | simp [Region.wanted, yielded]) ?_; apply Exists.intro; refine ⟨fun w' hw' => ?_, ?_⟩; (focus (go_simp; (first | done | rfl | ((try go_ints); (try simp only [↓IntWalk.iteOmega, true_and]); (try go_simp); (first | done | rfl))))); go_simp; (with_reducible apply hK); clear hK K))
    ((with_reducible refine wpQuiet_step (fun K hK => ?_)); refine quiet_plainG (.string (by8 s)) (by first | rfl | simp [Region.wanted, yielded]) (fun w' hw' => by have e := d34 w' hw'; go_simp; try simp [e]) ?_; go_simp; (with_reducible apply hK); clear hK K)
    ((with_reducible refine wpQuiet_step (fun K hK => ?_)); refine quiet_plainG (.string SZ) (by first | rfl | simp [Region.wanted, yielded]) (fun w' hw' => by have e := E1.out; go_simp; try simp [e]) ?_; go_simp; (with_reducible apply hK); clear hK K)
    (iterate 3 ((with_reducible refine wpQuiet_step (fun K hK => ?_)); refine quiet_autoE (by first | rfl | simp [Region.wanted, yielded]) ?_; apply Exists.intro; refine ⟨fun w' hw' => ?_, ?_⟩; (focus (go_simp; (first | done | rfl | ((try go_ints); (try simp only [↓IntWalk.iteOmega, true_and]); (try go_simp); (first | done | rfl))))); go_simp; (with_reducible apply hK); clear hK K))
    ((with_reducible refine wpQuiet_step (fun K hK => ?_)); refine quiet_plainG (.string (by8 s)) (by first | rfl | simp [Region.wanted, yielded]) (fun w' hw' => by have e := d34 w' hw'; go_simp; try simp [e]) ?_; go_simp; (with_reducible apply hK); clear hK K)
    (iterate 1 ((with_reducible refine wpQuiet_step (fun K hK => ?_)); refine quiet_autoE (by first | rfl | simp [Region.wanted, yielded]) ?_; apply Exists.intro; refine ⟨fun w' hw' => ?_, ?_⟩; (focus (go_simp; (first | done | rfl | ((try go_ints); (try simp only [↓IntWalk.iteOmega, true_and]); (try go_simp); (first | done | rfl))))); go_simp; (with_reducible apply hK); clear hK K))
    ((with_reducible refine wpQuiet_step (fun K hK => ?_)); refine quiet_plainG (.string OUT) (by first | rfl | simp [Region.wanted, yielded]) (fun w' hw' => by have e := e2.out; go_simp; (try simp [e]); (try (intro hh; omega))) ?_; go_simp; (with_reducible apply hK); clear hK K)
    ((with_reducible refine wpQuiet_step (fun K hK => ?_)); refine quiet_callE (by first | rfl | simp [Region.wanted, yielded]) ?_; apply Exists.intro; apply Exists.intro; refine ⟨fun w' => ?_, ?_⟩; (focus (go_simp; try (first | exact ⟨rfl, rfl⟩ | rfl))); apply Exists.intro; refine ⟨fun w' hw' => quiet_below hw' (BO4.out w' (Rw.trans BDW.out hw')), ?_⟩; go_simp; (with_reducible apply hK); clear hK K)
    (repeat ((with_reducible refine wpQuiet_step (fun K hK => ?_)); refine quiet_autoE (by first | rfl | simp [Region.wanted, yielded]) ?_; apply Exists.intro; refine ⟨fun w' hw' => ?_, ?_⟩; (focus (go_simp; (first | done | rfl | ((try go_ints); (try simp only [↓IntWalk.iteOmega, true_and]); (try go_simp); (first | done | rfl))))); go_simp; (with_reducible apply hK); clear hK K))
    refine wpQuiet_nil ?_
    intro w6 h6
    have B6 := Rw.trans BDW.out h6
    have L6 := W5.out w6 B6
    obtain ⟨g1, g2, g3, g4, g5, g6⟩ := L6
    have HFIN := Lib.hid (And.intro g5 g6)
    obtain ⟨f1, f2, f3⟩ := E4.out
    have h0 : 0 < BD9.size := by omega
    have f4 := f3 h0
    obtain ⟨q, hq⟩ : ∃ q : Nat, (n : Int) - (pd : Int) = (q : Int) := ⟨n - pd, by omega⟩
    have hq1 : n - pd = q := by omega
    rw [hq1] at f2
    have hqn : 1 ≤ q ∧ q ≤ n := by omega
    have e3' := e3.out
    rw [hsz] at e3'
    clear d34 h6 B6 W5 BO4 BDW g5 g6 f3 hq1 e2
    have hpi : (pd : Int) < 4 ↔ False := ⟨fun h => by omega, fun h => h.elim⟩
    have hcc : IntKind.u64.wrap ((c : Int) + 1) = (c : Int) + 1 := by rw [IntKind.wrap_u64]; omega
    go_wp2_with fail
    refine bodyPost_ret (results_tmp3 rfl _ _ _) rfl ?_
    exact ⟨rfl, HFIN.out.1, HFIN.out.2⟩
  · have m0 : Hid ((4 + n + 16) = 4 + n + (if true then 16 else 0)) := Lib.hid rfl
    obtain ⟨M, hM⟩ : ∃ M : Nat, M = (4 + n + 16) := ⟨_, rfl⟩
    have hMi : (4 + (n : Int) + 16 : Int) = (M : Int) := by omega
    have hln : M ≤ s.length := by have h := HSL.out; simp at h; omega
    have e2 := Lib.hid (E2.out M (by rw [hM]; exact m0.out))
    have e3 := Lib.hid (E3.out M (by rw [hM]; exact m0.out))
    clear hM m0 E2 E3
    have hlf : ((s.length : Int) < 4 + (n : Int) + 16) = False := eq_false (by omega)
    go_upto_region 14 with (go_at_call 25; refine AC.out.mono ?_; rintro e w5 ⟨rfl, rfl⟩)
    have HMI := Lib.hid hMi
    clear hMi hlf z0 c1' c34' AC
    have d34 : ∀ w', Below w4.drew.heap.size w4.drew w' → w'.cell? ⟨b, 34, none⟩ = some (.string (by8 s)) := fun w' hb => (W5.out w' (Rw.trans (below_drewN (Below.refl w4.heap.size w4) 1) hb)).1
    have BDW : Hid (Below w4.heap.size w4 w4.drew) := Lib.hid (below_drewN (Below.refl _ _) 1)
    have hM4 : 4 ≤ M := by have := HMI.out; omega
    (refine region_quiet (C := fun w' => Rw (w4.drewN 1) w') (by kernel_rfl) (by kernel_rfl) (Rw.refl _) ?_)
    (iterate 4 ((with_reducible refine wpQuiet_step (fun K hK => ?_)); refine quiet_autoE (by first | rfl | simp [Region.wanted, yielded]) ?_; apply Exists.intro; refine ⟨fun w' hw' => ?_, ?_⟩; (focus (go_simp; (first | done | rfl | ((try go_ints); (try simp only [↓IntWalk.iteOmega, true_and]); (try go_simp); (first | done | rfl))))); go_simp; (with_reducible apply hK); clear hK K))
    ((with_reducible refine wpQuiet_step (fun K hK => ?_)); refine quiet_plainG (.string (by8 s)) (by first | rfl | simp [Region.wanted, yielded]) (fun w' hw' => by have e := d34 w' hw'; go_simp; try simp [e]) ?_; go_simp; (with_reducible apply hK); clear hK K)
    ((with_reducible refine wpQuiet_step (fun K hK => ?_)); refine quiet_plainG (.string SZ) (by first | rfl | simp [Region.wanted, yielded]) (fun w' hw' => by have e := E1.out; go_simp; try simp [e]) ?_; go_simp; (with_reducible apply hK); clear hK K)
    (iterate 3 ((with_reducible refine wpQuiet_step (fun K hK => ?_)); refine quiet_autoE (by first | rfl | simp [Region.wanted, yielded]) ?_; apply Exists.intro; refine ⟨fun w' hw' => ?_, ?_⟩; (focus (go_simp; (first | done | rfl | ((try go_ints); (try simp only [↓IntWalk.iteOmega, true_and]); (try go_simp); (first | done | rfl))))); go_simp; (with_reducible apply hK); clear hK K))
    ((with_reducible refine wpQuiet_step (fun K hK => ?_)); refine quiet_plainG (.string (by8 s)) (by first | rfl | simp [Region.wanted, yielded]) (fun w' hw' => by have e := d34 w' hw'; go_simp; try simp [e]) ?_; go_simp; (with_reducible apply hK); clear hK K)
    (iterate 1 ((with_reducible refine wpQuiet_step (fun K hK => ?_)); refine quiet_autoE (by first | rfl | simp [Region.wanted, yielded]) ?_; apply Exists.intro; refine ⟨fun w' hw' => ?_, ?_⟩; (focus (go_simp; (first | done | rfl | ((try go_ints); (try simp only [↓IntWalk.iteOmega, true_and]); (try go_simp); (first | done | rfl))))); go_simp; (with_reducible apply hK); clear hK K))
    ((with_reducible refine wpQuiet_step (fun K hK => ?_)); refine quiet_plainG (.string OUT) (by first | rfl | simp [Region.wanted, yielded]) (fun w' hw' => by have e := e2.out; go_simp; (try simp [e]); (try (intro hh; omega))) ?_; go_simp; (with_reducible apply hK); clear hK K)
    ((with_reducible refine wpQuiet_step (fun K hK => ?_)); refine quiet_callE (by first | rfl | simp [Region.wanted, yielded]) ?_; apply Exists.intro; apply Exists.intro; refine ⟨fun w' => ?_, ?_⟩; (focus (go_simp; try (first | exact ⟨rfl, rfl⟩ | rfl))); apply Exists.intro; refine ⟨fun w' hw' => quiet_below hw' (BO4.out w' (Rw.trans BDW.out hw')), ?_⟩; go_simp; (with_reducible apply hK); clear hK K)
    (repeat ((with_reducible refine wpQuiet_step (fun K hK => ?_)); refine quiet_autoE (by first | rfl | simp [Region.wanted, yielded]) ?_; apply Exists.intro; refine ⟨fun w' hw' => ?_, ?_⟩; (focus (go_simp; (first | done | rfl | ((try go_ints); (try simp only [↓IntWalk.iteOmega, true_and]); (try go_simp); (first | done | rfl))))); go_simp; (with_reducible apply hK); clear hK K))
    refine wpQuiet_nil ?_
    intro w6 h6
    have B6 := Rw.trans BDW.out h6
    have L6 := W5.out w6 B6
    obtain ⟨g1, g2, g3, g4, g5, g6⟩ := L6
    have HFIN := Lib.hid (And.intro g5 g6)
    obtain ⟨f1, f2, f3⟩ := E4.out
    have h0 : 0 < BD9.size := by omega
    have f4 := f3 h0
    obtain ⟨q, hq⟩ : ∃ q : Nat, (n : Int) - (pd : Int) = (q : Int) := ⟨n - pd, by omega⟩
    have hq1 : n - pd = q := by omega
    rw [hq1] at f2
    have hqn : 1 ≤ q ∧ q ≤ n := by omega
    have e3' := e3.out
    rw [hsz] at e3'
    clear d34 h6 B6 W5 BO4 BDW g5 g6 f3 hq1 e2
    have hpi : (pd : Int) < 4 ↔ False := ⟨fun h => by omega, fun h => h.elim⟩
    have hcc : IntKind.u64.wrap ((c : Int) + 1) = (c : Int) + 1 := by rw [IntKind.wrap_u64]; omega
    go_wp2_with fail
    refine bodyPost_ret (results_tmp3 rfl _ _ _) rfl ?_
    exact ⟨rfl, HFIN.out.1, HFIN.out.2⟩
end Pt
end Go.Proofs.YtcbkbjpdfanjpaaGreatDoor
