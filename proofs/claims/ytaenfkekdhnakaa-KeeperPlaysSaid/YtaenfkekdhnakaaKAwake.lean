/-
The fixed facts of the statements of layer 29.
-/
import Derived.Test.YtaenfkekdhnakaaKLaw
namespace Go.Proofs.Ytaenfkekdhnakaa
open Go.RowKit

def aS : ByteArray := ⟨#[97]⟩
def s0 : KS := newS [aS] 2 9 5
theorem lit_strs (w : World) (t : TypeId) (s : ByteArray) : Sg (w.alloc (.cells #[.string s] t)) 1 (.slice (some ⟨w.heap.size, 0, none⟩) 1 1) [s].length (svals [s]) := by
  have hb : Blk (w.alloc (.cells #[.string s] t)) w.heap.size t [.string s] := Blk.new w _ _
  refine ⟨rfl, _, 1, rfl, Nat.le_refl _, by unfold maxLen; omega, .inr ⟨w.heap.size, 0, rfl, hb.lt, fun j hj => ?_, fun j hj => ?_⟩⟩
  · rw [Nat.zero_add]
    match j, hj with
    | 0, _ => exact ⟨by rw [hb.cell 0 _ rfl]; rfl, hb.free 0⟩
  · rw [Nat.zero_add]
    match j, hj with
    | 0, _ => exact hb.cell 0 _ rfl
theorem vars_held (a b c d e : Int) (ao : Option Addr) (n cap : Nat) (w : World) : (Instr.field 47 (.agg #[.int .i64 a, .int .i64 b, .int .i64 c, .int .i64 d, .int .i64 e, .slice ao n cap]) 5).run Try.prog w = .ok (.slice ao n cap) w := by kernel_rfl
theorem vars_state (a b c d e : Int) (v : Value) (w : World) : (Instr.field 47 (.agg #[.int .i64 a, .int .i64 b, .int .i64 c, .int .i64 d, .int .i64 e, v]) 0).run Try.prog w = .ok (.int .i64 a) w := by kernel_rfl
theorem vars_fails (a b c d e : Int) (v : Value) (w : World) : (Instr.field 47 (.agg #[.int .i64 a, .int .i64 b, .int .i64 c, .int .i64 d, .int .i64 e, v]) 3).run Try.prog w = .ok (.int .i64 d) w := by kernel_rfl
set_option maxHeartbeats 1000000 in
set_option maxRecDepth 100000 in
theorem awake_ok (w : World) :
    Calls Try.prog 8 #[] w fun e w' => e = .returned (.bool true) ∧ Below w.heap.size w w' := by
  go_enter Try.func8, Try.ntmps8
  go_wp2_with fail
  refine (newP [aS] _ 2 9 5 w _ ?_ (lit_strs w _ _) (by show 1 ≤ 1000; omega)).mono ?_
  · exact (Below.refl _ _).alloc (Nat.le_refl _) _
  rintro e w1 ⟨b, rfl, h1⟩
  go_wp2_with fail
  refine (tickP w b (newS [aS] 2 9 5) w1 h1 (by show 0 < 1000000000000; omega)).mono ?_
  rintro e w2 ⟨vo, rfl, h2, o2⟩
  go_wp2_with fail
  refine (same_ok (newS [aS] 2 9 5).tick.2 [(1, emp)] vo _ _ (o2.below ?_) (lit_acts w2 _ 1 emp) (by show 1 ≤ 100; omega) (by show 1 ≤ 100; omega)).mono ?_
  · exact (Below.refl _ _).alloc (Nat.le_refl _) _
  rintro e w3 ⟨rfl, b3⟩
  have h3 := (h2.below ((Below.refl _ _).alloc (Nat.le_refl _) (.cells #[.int .i64 1, .string emp] 45))).below b3
  clear h1 h2 o2 b3
  rw [show (newS [aS] 2 9 5).tick.2 = [(1, emp)] from rfl, decide_eq_true rfl]
  generalize hs1 : (newS [aS] 2 9 5).tick.1 = s1 at h3
  have HS1 := Lib.hid hs1
  clear hs1
  go_wp2_with fail
  refine (toldP w b s1 1 w3 h3).mono ?_
  rintro e w4 ⟨vo, rfl, h4, o4⟩
  go_wp2_with fail
  refine (same_ok (s1.told 1).2 [(2, aS)] vo _ _ (o4.below ?_) (lit_acts w4 _ 2 aS) ?_ (by show 1 ≤ 100; omega)).mono ?_
  · exact (Below.refl _ _).alloc (Nat.le_refl _) _
  · rw [← HS1.out]; show 1 ≤ 100; omega
  rintro e w5 ⟨rfl, b5⟩
  have h5 := (h4.below ((Below.refl _ _).alloc (Nat.le_refl _) (.cells #[.int .i64 2, .string aS] 45))).below b5
  clear h3 h4 o4 b5
  rw [show (s1.told 1).2 = [(2, aS)] by rw [← HS1.out]; rfl, decide_eq_true rfl]
  generalize hs2 : (s1.told 1).1 = s2 at h5
  have HS2 := Lib.hid hs2
  clear hs2
  go_wp2_with fail
  refine (toldP w b s2 3 w5 h5).mono ?_
  rintro e w6 ⟨vo, rfl, h6, o6⟩
  have hs3 : (s2.told 3).1.state = 2 ∧ (s2.told 3).1.held.length = 1 := by rw [← HS2.out, ← HS1.out]; exact ⟨rfl, rfl⟩
  obtain ⟨s3, e3⟩ : ∃ s3, s3 = (s2.told 3).1 := ⟨_, rfl⟩
  rw [← e3] at h6 hs3
  obtain ⟨z1, z2⟩ := hs3
  clear h5 o6 e3
  go_wp2_with fail
  refine (varsP w b s3 w6 h6).mono ?_
  rintro e w7 ⟨vh, rfl, g7, h7⟩
  rw [z2] at g7
  obtain ⟨ao, cap, rfl⟩ : ∃ ao cap, vh = .slice ao 1 cap := by
    obtain ⟨_, ao, cap, hv, _⟩ := g7
    exact ⟨ao, cap, hv⟩
  clear h6 g7
  unfold vcells
  have hf5 := vars_held 2 s3.clock s3.dueV s3.fails s3.asked.length ao 1 cap
  rw [z1]
  go_wp2_with fail
  refine (varsP w b s3 w7 h7).mono ?_
  rintro e w8 ⟨vh, rfl, g8, h8⟩
  unfold vcells
  rw [z1]
  have hf0 := vars_state 2 s3.clock s3.dueV s3.fails s3.asked.length vh
  have hb := h8.bel
  clear h7 g8 h8
  go_wp2_with fail
  go_ret
  exact ⟨rfl, hb⟩
end Go.Proofs.Ytaenfkekdhnakaa
