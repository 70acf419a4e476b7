/-
The fixed facts of the statements of layer 18.
-/
import Derived.Test.YtjecflcfjldkcaaDoorFlowSend
namespace Go.Proofs.YtjecflcfjldkcaaDoor
open Go.RowKit

set_option maxHeartbeats 1000000 in
set_option maxRecDepth 100000 in
theorem awake_ok (ad : Nat → Addr) (w : World) (hS : SentF w 71 errGs ad) :
    Calls Tryd.prog 7 #[] w fun e w' => e = .returned (.bool true) ∧ Below w.heap.size w w' := by
  have HS := Lib.hid hS
  clear hS
  go_enter Tryd.func7, Tryd.ntmps7
  go_wp2_with fail
  refine (newRecv_ok 10 4 _).mono ?_
  rintro e w1 ⟨rfl, r1, b1⟩
  go_wp2_with fail
  refine ((got_yes _ 10 10 4 0 0 4 4 rfl _ r1 (by decide) (by decide) (by decide) (by decide) (by decide)).mono (R' := fun e w' => e = .returned .nilIface ∧ Rc w' w.heap.size 10 6 4 4 0 ∧ Only w.heap.size w1 w') (fun _ _ h => h)).mono ?_
  rintro e w2 ⟨rfl, r2, o2⟩
  have hb2 := b1.trans (o2.below b1.size (Nat.le_refl _))
  clear b1 o2 r1
  go_wp2_with fail
  refine (got_no ad _ 10 6 4 4 0 5 _ r2 (by decide) (by decide) (by decide) ((HS.out.same hb2).cell 18 (by decide))).mono ?_
  rintro e w3 ⟨rfl, rfl⟩
  go_wp2_with fail
  refine ((code_ok ad _ (HS.out.same hb2) 18 (by decide)).mono (R' := fun e w' => e = .returned (.int .i64 19) ∧ w2 = w') (fun _ _ h => h)).mono ?_
  rintro e w3 ⟨rfl, rfl⟩
  go_wp2_with fail
  refine ((used_ok _ 10 6 4 4 0 4 _ r2 (by decide)).mono (R' := fun e w' => e = .returned (.tuple #[]) ∧ Rc w' w.heap.size 10 6 4 0 4 ∧ Only w.heap.size w2 w') (fun _ _ h => h)).mono ?_
  rintro e w3 ⟨rfl, r3, o3⟩
  have hb3 := hb2.trans (o3.below hb2.size (Nat.le_refl _))
  clear o3 r2 hb2
  go_wp2_with fail
  refine ((adjust_ok _ 10 6 4 0 4 _ r3 (by decide) (by decide)).mono (R' := fun e w' => e = .returned (.int .u32 0) ∧ Rc w' w.heap.size 10 6 4 0 4 ∧ Only w.heap.size w3 w') (fun _ _ h => h)).mono ?_
  rintro e w4 ⟨rfl, r4, o4⟩
  have hb4 := hb3.trans (o4.below hb3.size (Nat.le_refl _))
  clear o4 r3 hb3
  go_wp2_with fail
  refine ((got_yes _ 10 6 4 0 4 4 4 rfl _ r4 (by decide) (by decide) (by decide) (by decide) (by decide)).mono (R' := fun e w' => e = .returned .nilIface ∧ Rc w' w.heap.size 10 2 4 4 4 ∧ Only w.heap.size w4 w') (fun _ _ h => h)).mono ?_
  rintro e w5 ⟨rfl, r5, o5⟩
  have hb5 := hb4.trans (o5.below hb4.size (Nat.le_refl _))
  clear o5 r4 hb4
  go_wp2_with fail
  refine ((used_ok _ 10 2 4 4 4 4 _ r5 (by decide)).mono (R' := fun e w' => e = .returned (.tuple #[]) ∧ Rc w' w.heap.size 10 2 4 0 8 ∧ Only w.heap.size w5 w') (fun _ _ h => h)).mono ?_
  rintro e w6 ⟨rfl, r6, o6⟩
  have hb6 := hb5.trans (o6.below hb5.size (Nat.le_refl _))
  clear o6 r5 hb5
  go_wp2_with fail
  refine ((newSend_ok 3 9 _).mono (R' := fun e w' => e = .returned (.pointer (some ⟨w6.heap.size, 0, none⟩)) ∧ Sd w' w6.heap.size 3 9 ∧ Below w6.heap.size w6 w') (fun _ _ h => h)).mono ?_
  rintro e w7 ⟨rfl, s7, b7⟩
  have r7 := Blk.below r6 b7 (Blk.lt r6)
  have hb7 := hb6.trans (b7.mono hb6.size)
  have g7 : w.heap.size < w6.heap.size := Blk.lt r6
  clear b7 r6 hb6
  go_wp2_with fail
  refine ((newBuffer_ok 2 _).mono (R' := fun e w' => e = .returned (.pointer (some ⟨w7.heap.size, 0, none⟩)) ∧ Bf w' w7.heap.size ⟨#[]⟩ 2 ∧ Below w7.heap.size w7 w') (fun _ _ h => h)).mono ?_
  rintro e w8 ⟨rfl, f8, b8⟩
  have r8 := Blk.below r7 b8 (Blk.lt r7)
  have s8 := Blk.below s7 b8 (Blk.lt s7)
  have g8 : w6.heap.size < w7.heap.size := Blk.lt s7
  have hb8 := hb7.trans (b8.mono hb7.size)
  clear b8 r7 s7 hb7
  generalize w6.heap.size = bs at *
  generalize w7.heap.size = bb at *
  go_wp2_with fail
  refine ((adjust_ok _ 10 2 4 0 8 _ r8 (by decide) (by decide)).mono (R' := fun e w' => e = .returned (.int .u32 8) ∧ Rc w' w.heap.size 10 10 4 0 0 ∧ Only w.heap.size w8 w') (fun _ _ h => h)).mono ?_
  rintro e w9 ⟨rfl, r9, o9⟩
  have s9 := Only.blk o9 s8 (by omega)
  have f9 := Only.blk o9 f8 (by omega)
  have hb9 := hb8.trans (o9.below hb8.size (Nat.le_refl _))
  clear o9 r8 s8 f8 hb8
  go_wp2_with fail
  refine ((recvLeft_ok _ _ _ _ _ _ _ r9).mono (R' := fun e w' => e = .returned (.int .u32 10) ∧ w9 = w') (fun _ _ h => h)).mono ?_
  rintro e w10 ⟨rfl, rfl⟩
  go_wp2_with fail
  refine ((sendTake_ok _ 3 9 9 _ s9 (by decide) (by decide)).mono (R' := fun e w' => e = .returned (.int .i64 3) ∧ Sd w' bs 0 9 ∧ Only bs w9 w') (fun _ _ h => h)).mono ?_
  rintro e w10 ⟨rfl, s10, o10⟩
  have f10 := Only.blk o10 f9 (by omega)
  have hb10 := hb9.trans (o10.below hb9.size (by omega))
  clear o10 s10 r9 s9 f9 hb9
  go_wp2_with fail
  refine ((bufPut_yes _ ⟨#[]⟩ ⟨#[97, 98]⟩ 2 _ f10 (by decide) (by decide)).mono (R' := fun e w' => e = .returned .nilIface ∧ Bf w' bb ⟨#[97, 98]⟩ 2 ∧ Only bb w10 w') (fun _ _ h => h)).mono ?_
  rintro e w11 ⟨rfl, f11, o11⟩
  have hb11 := hb10.trans (o11.below hb10.size (by omega))
  clear o11 f10 hb10
  go_wp2_with fail
  refine ((bufRoom_ok _ _ 2 _ f11 (by decide) (by decide)).mono (R' := fun e w' => e = .returned (.int .i64 0) ∧ Only bb w11 w') (fun _ _ h => ⟨h.1, h.2.2.1⟩)).mono ?_
  rintro e w12 ⟨rfl, o12⟩
  have hb12 := hb11.trans (o12.below hb11.size (by omega))
  go_wp2_with fail
  go_ret
  exact ⟨rfl, hb12⟩
end Go.Proofs.YtjecflcfjldkcaaDoor
