/-
packet: a packet's body read; the next payload.
-/
import Derived.Test.YtcbkbjpdfanjpaaGreatDoorPk28
namespace Go.Proofs.YtcbkbjpdfanjpaaGreatDoor
open Go.RowKit
set_option maxRecDepth 100000
namespace Pt
open Cha Pol
/-- chacha's tables lie in their variables -/
def PC (Bg : List Int) (Or : List Nat) (w : World) : Prop := ChaT w Bg Or ∧ 8 < w.heap.size ∧ 9 < w.heap.size
theorem PC.below {Bg : List Int} {Or : List Nat} {w w' : World} (h : PC Bg Or w) (hb : Below w.heap.size w w') : PC Bg Or w' :=
  ⟨h.1.below hb, Nat.lt_of_lt_of_le h.2.1 hb.size, Nat.lt_of_lt_of_le h.2.2 hb.size⟩
def pdN (sl : Bool) (p : S) : Nat := Ms.padN (ahN sl) (p.length + 1)
def szN (sl : Bool) (p : S) : Nat := p.length + 1 + pdN sl p
def bdL (sl : Bool) (p : S) : S := Ms.bodyL p (pdN sl p)
def szL (sl : Bool) (p : S) : S := Wob.be4 (szN sl p)
def outL (Bg : List Int) (Or : List Nat) (sl : Bool) (key : S) (c : Nat) (p : S) : S := if sl then sealL Bg Or key (nonL c) (bdL sl p) (szL sl p) else bdL sl p
def pktL (Bg : List Int) (Or : List Nat) (sl : Bool) (key : S) (c : Nat) (p : S) : S := szL sl p ++ outL Bg Or sl key c p
theorem bdL_len (sl : Bool) (p : S) : (bdL sl p).length = szN sl p := by unfold bdL szN; rw [Ms.bodyL_len]
theorem outL_len (Bg : List Int) (Or : List Nat) (sl : Bool) (key : S) (c : Nat) (p : S) : (outL Bg Or sl key c p).length = szN sl p + (if sl then 16 else 0) := by
  unfold outL
  cases sl
  · exact bdL_len _ _
  · show (xorF Bg Or key 1 (nonL c) (bdL true p) ++ mrkL Bg Or key (nonL c) _ _).length = _
    rw [List.length_append, xorF_len, mrkL_len, bdL_len]
    rfl
theorem pd_ok (sl : Bool) (p : S) : 4 ≤ pdN sl p ∧ pdN sl p ≤ 11 ∧ (szN sl p + ahN sl) % 8 = 0 := by
  have := Ms.padN_ok (ahN sl) (p.length + 1)
  exact this
theorem be4_len (n : Nat) : (Wob.be4 n).length = 4 := rfl
theorem pktL_len (Bg : List Int) (Or : List Nat) (sl : Bool) (key : S) (c : Nat) (p : S) : (pktL Bg Or sl key c p).length = 4 + szN sl p + (if sl then 16 else 0) := by
  unfold pktL szL
  rw [List.length_append, be4_len, outL_len]
  omega
set_option maxHeartbeats 4000000 in
theorem body_ok (Bg : List Int) (Or : List Nat) (b c : Nat) (sl : Bool) (key s0 p : S) (w : World) (h : Blk w b tRd (rdC c sl key s0)) (hk : key.length = 32) (hP : PC Bg Or w) (hp : p.length ≤ 80000) :
    Calls Tryz.prog 49 #[.pointer (some ⟨b, 0, none⟩), .string (by8 (szL sl p)), .string (by8 (outL Bg Or sl key c p))] w fun e w' => e = .returned (.tuple #[.string (by8 (bdL sl p)), .nilIface]) ∧ Below w.heap.size w w' := by
  have c1 := h.cell 1 _ rfl
  cases sl with
  | false =>
    have e : outL Bg Or false key c p = bdL false p := rfl
    rw [e]
    clear h
    go_enter Tryz.func49, Tryz.ntmps49
    go_wp2_with fail
    go_ret2
    exact ⟨rfl, Below.refl _ _⟩
  | true =>
    obtain ⟨X, hX⟩ : ∃ X, X = xorF Bg Or key 1 (nonL c) (bdL true p) := ⟨_, rfl⟩
    have hXl : X.length ≤ 90000 := by rw [hX, xorF_len, bdL_len]; have := pd_ok true p; unfold szN; omega
    have hback : xorF Bg Or key 1 (nonL c) X = bdL true p := by rw [hX]; exact xorF_back _ _ _ _ _ _
    obtain ⟨Z, hZ⟩ : ∃ Z, Z = outL Bg Or true key c p := ⟨_, rfl⟩
    have hZe : Z = X ++ mrkL Bg Or key (nonL c) X (szL true p) := by rw [hZ, hX]; rfl
    have NC : Hid (∀ w', Below w.heap.size w w' → Calls Tryz.prog 32 #[.pointer (some ⟨b, 0, none⟩)] w' fun e w'' => e = .returned (.agg (byv (nonL c)).toArray) ∧ Below w'.heap.size w' w'') := Lib.hid fun w' hb => nonce_ok b c tRd true key _ w' (h.below hb h.lt)
    have OP : Hid (∀ w', Below w.heap.size w w' → Calls Tryz.prog 80 #[.agg (byv key).toArray, .agg (byv (nonL c)).toArray, .string (by8 Z), .string (by8 (szL true p))] w' fun e w'' => e = .returned (.tuple #[.string (by8 (bdL true p)), .nilIface]) ∧ Below w'.heap.size w' w'') := Lib.hid fun w' hb => by
      have := (hP.below hb)
      rw [← hback, hZe]
      exact popen_ok Bg Or key (nonL c) X (szL true p) hXl (by unfold szL; rw [be4_len]; decide) w' this.1 hk (nonL_len c) this.2
    have LK : Hid ((byv key).length = 32) := Lib.hid (by rw [byv_len]; exact hk)
    have KR : Hid (∀ w', Below w.heap.size w w' → w'.rangeAt b 2 (byv key)) := Lib.hid fun w' hb => blk_mid (pre := [.int .u64 (c : Nat), .bool true]) (mid := byv key) (post := [.string (by8 s0), .nilIface]) (h.below hb h.lt)
    have SZ : Hid ((Tryz.prog.info? 23).map (·.size) = some (byv key).length) := Lib.hid (by rw [LK.out]; exact arr32_size)
    rw [← hZ]
    clear h hP hX hXl hback hZ hZe
    go_enter Tryz.func49, Tryz.ntmps49
    go_upto_region 3 with fail
    have BD : Below w.heap.size w w.drew := below_drewN (Below.refl _ _) 1
    have BDH := Lib.hid BD
    clear BD
    (refine region_quiet (C := fun w' => Rw (w.drewN 1) w') (by kernel_rfl) (by kernel_rfl) (Rw.refl _) ?_)
    (iterate 4 ((with_reducible refine wpQuiet_step (fun K hK => ?_)); refine quiet_autoE (by first | rfl | simp [Region.wanted, yielded]) ?_; apply Exists.intro; refine ⟨fun w' hw' => ?_, ?_⟩; (focus (go_simp; (first | done | rfl | ((try go_ints); (try simp only [↓IntWalk.iteOmega, true_and]); (try go_simp); (first | done | rfl))))); go_simp; (with_reducible apply hK); clear hK K))
    ((with_reducible refine wpQuiet_step (fun K hK => ?_)); refine quiet_loadN (fun w' hw' => KR.out w' (Rw.trans BDH.out hw')) Tryz.underlying23 rfl SZ.out (by first | rfl | simp [Region.wanted, yielded]) rfl (by go_simp) ?_; go_simp; (with_reducible apply hK); clear hK K)
    (iterate 3 ((with_reducible refine wpQuiet_step (fun K hK => ?_)); refine quiet_autoE (by first | rfl | simp [Region.wanted, yielded]) ?_; apply Exists.intro; refine ⟨fun w' hw' => ?_, ?_⟩; (focus (go_simp; (first | done | rfl | ((try go_ints); (try simp only [↓IntWalk.iteOmega, true_and]); (try go_simp); (first | done | rfl))))); go_simp; (with_reducible apply hK); clear hK K))
    ((with_reducible refine wpQuiet_step (fun K hK => ?_)); refine quiet_callE (by first | rfl | simp [Region.wanted, yielded]) ?_; apply Exists.intro; apply Exists.intro; refine ⟨fun w' => ?_, ?_⟩; (focus (go_simp; try (first | exact ⟨rfl, rfl⟩ | rfl))); apply Exists.intro; refine ⟨fun w' hw' => quiet_below hw' (NC.out w' (Rw.trans BDH.out hw')), ?_⟩; go_simp; (with_reducible apply hK); clear hK K)
    (iterate 2 ((with_reducible refine wpQuiet_step (fun K hK => ?_)); refine quiet_autoE (by first | rfl | simp [Region.wanted, yielded]) ?_; apply Exists.intro; refine ⟨fun w' hw' => ?_, ?_⟩; (focus (go_simp; (first | done | rfl | ((try go_ints); (try simp only [↓IntWalk.iteOmega, true_and]); (try go_simp); (first | done | rfl))))); go_simp; (with_reducible apply hK); clear hK K))
    ((with_reducible refine wpQuiet_step (fun K hK => ?_)); refine quiet_callE (by first | rfl | simp [Region.wanted, yielded]) ?_; apply Exists.intro; apply Exists.intro; refine ⟨fun w' => ?_, ?_⟩; (focus (go_simp; try (first | exact ⟨rfl, rfl⟩ | rfl))); apply Exists.intro; refine ⟨fun w' hw' => quiet_below hw' (OP.out w' (Rw.trans BDH.out hw')), ?_⟩; go_simp; (with_reducible apply hK); clear hK K)
    (repeat ((with_reducible refine wpQuiet_step (fun K hK => ?_)); refine quiet_autoE (by first | rfl | simp [Region.wanted, yielded]) ?_; apply Exists.intro; refine ⟨fun w' hw' => ?_, ?_⟩; (focus (go_simp; (first | done | rfl | ((try go_ints); (try simp only [↓IntWalk.iteOmega, true_and]); (try go_simp); (first | done | rfl))))); go_simp; (with_reducible apply hK); clear hK K))
    refine wpQuiet_nil ?_
    intro w2 h2
    have HB := Lib.hid (Rw.trans BDH.out h2)
    clear h2 BDH NC OP KR
    go_wp2_with fail
    go_ret2
    exact ⟨rfl, HB.out⟩
end Pt
end Go.Proofs.YtcbkbjpdfanjpaaGreatDoor
