/-
Bytes in the walks: xor, and the small functions twice, times, RotateLeft8.
-/
import Derived.Test.YteleedcpepifjaaDoorRows
import Derived.Test.YteleedcpepifjaaDoorAesP
import Derived.Test.YteleedcpepifjaaDoorBySg
import Derived.Test.YteleedcpepifjaaDoorPlanT
import Derived.LoopTactic
import Derived.Deep.DeepCutAuto
import Derived.BigRegion
import Derived.Outline
namespace Go.Proofs.YteleedcpepifjaaDoor
open Go.RowKit AesP
set_option maxRecDepth 100000

theorem wp_gen {P : Program} {c : Code} {Q : Exit → Act → World → Prop} {a : Act} {W : World} (R : World → Prop) (h : R W) (k : ∀ w1, R w1 → Code.wp P c Q a w1) : Code.wp P c Q a W := k W h
theorem xor8 (x y : Nat) (hx : x < 256) (hy : y < 256) : bits .xor .u8 (x : Int) (y : Int) = ((x ^^^ y : Nat) : Int) := by
  have key : (BitVec.ofInt 8 (x : Int) ^^^ BitVec.ofInt 8 (y : Int)).toNat = x ^^^ y := by
    rw [BitVec.toNat_xor, BitVec.toNat_ofInt, BitVec.toNat_ofInt]
    congr 1 <;> omega
  have hlt : x ^^^ y < 256 := Nat.xor_lt_two_pow (n := 8) hx hy
  show IntKind.u8.wrap ((BitVec.ofInt 8 (x : Int) ^^^ BitVec.ofInt 8 (y : Int)).toNat : Nat) = _
  rw [key, IntKind.wrap_u8]
  omega
theorem or8 (x y : Nat) (hx : x < 256) (hy : y < 256) : bits .or .u8 (x : Int) (y : Int) = ((x ||| y : Nat) : Int) := by
  have key : (BitVec.ofInt 8 (x : Int) ||| BitVec.ofInt 8 (y : Int)).toNat = x ||| y := by
    rw [BitVec.toNat_or, BitVec.toNat_ofInt, BitVec.toNat_ofInt]
    congr 1 <;> omega
  have hlt : x ||| y < 256 := Nat.or_lt_two_pow (n := 8) hx hy
  show IntKind.u8.wrap ((BitVec.ofInt 8 (x : Int) ||| BitVec.ofInt 8 (y : Int)).toNat : Nat) = _
  rw [key, IntKind.wrap_u8]
  omega
theorem xor64 (x y : Nat) (hx : x < 4294967296) (hy : y < 4294967296) : bits .xor .i64 (x : Int) (y : Int) = ((x ^^^ y : Nat) : Int) := by
  have key : (BitVec.ofInt 64 (x : Int) ^^^ BitVec.ofInt 64 (y : Int)).toNat = x ^^^ y := by
    rw [BitVec.toNat_xor, BitVec.toNat_ofInt, BitVec.toNat_ofInt]
    congr 1 <;> omega
  have hlt : x ^^^ y < 4294967296 := Nat.xor_lt_two_pow (n := 32) hx hy
  show IntKind.i64.wrap ((BitVec.ofInt 64 (x : Int) ^^^ BitVec.ofInt 64 (y : Int)).toNat : Nat) = _
  rw [key, IntKind.wrap_i64]
  omega
theorem and1_u8 (n : Nat) (h : n < 256) : bits .and .u8 (n : Int) 1 = ((n % 2 : Nat) : Int) := by
  have : ∀ n : Fin 256, bits .and .u8 ((n.val : Nat) : Int) 1 = ((n.val % 2 : Nat) : Int) := by decide +kernel
  exact this ⟨n, h⟩
def b8 (l : List Nat) : List Value := l.map fun d => Value.int .u8 (d : Nat)
theorem b8_get (l : List Nat) (i : Nat) (h : i < l.length) : (b8 l)[i]? = some (.int .u8 (l.getD i 0 : Nat)) := by simp [b8, h]
theorem b8_len (l : List Nat) : (b8 l).length = l.length := by simp [b8]
theorem b8_one (l : List Nat) : ∀ v ∈ b8 l, v.oneCell' = true := by intro y hy; obtain ⟨d, _, rfl⟩ := List.mem_map.1 hy; rfl
theorem b8_set (l : List Nat) (i d : Nat) : (b8 l).set i (.int .u8 (d : Nat)) = b8 (l.set i d) := by simp [b8, List.map_set]
theorem Blk.b8set {w : World} {b : Nat} {t : TypeId} {l : List Nat} (h : Blk w b t (b8 l)) (i d : Nat) : Blk (w.setCell ⟨b, i, none⟩ (.int .u8 (d : Nat))) b t (b8 (l.set i d)) := by rw [← b8_set]; exact h.set i _
theorem Blk.b8cell {w : World} {b : Nat} {t : TypeId} {l : List Nat} (h : Blk w b t (b8 l)) (i : Nat) (hi : i < l.length) : w.cell? ⟨b, i, none⟩ = some (.int .u8 (l.getD i 0 : Nat)) := h.cell i _ (b8_get l i hi)

set_option maxHeartbeats 1000000 in
theorem twice_ok (x : Nat) (hx : x < 256) (w : World) : Calls Tryd.prog 21 #[.int .u8 x] w fun e w' => e = .returned (.int .u8 (tw x : Nat)) ∧ w = w' := by
  have h1 : bits .xor .u8 ((x * 2 % 256 : Nat) : Int) ((x / 128 * 27 : Nat) : Int) = ((tw x : Nat) : Int) := xor8 _ _ (by omega) (by omega)
  go_enter Tryd.func21, Tryd.ntmps21
  push_cast at h1
  have H1 := Lib.hid h1
  clear h1
  go_wp2_with fail
  go_ret
  have h1 := H1.out
  exact ⟨congrArg (fun z : Int => Ending.returned (.int .u8 z)) h1, rfl⟩
theorem times_step (n out a b : Nat) (hb : b ≠ 0) : tmF (n + 1) out a b = tmF n (out ^^^ a * (b % 2)) (tw a) (b / 2) := by show (if b = 0 then _ else _) = _; rw [if_neg hb]
theorem tmF_zero (n out a : Nat) : tmF n out a 0 = out := by cases n <;> rfl
set_option maxHeartbeats 2000000 in
theorem rotl_ok (y n : Nat) (hy : y < 256) (hn : 1 ≤ n ∧ n ≤ 4) (w : World) : Calls Tryd.prog 35 #[.int .u8 y, .int .i64 n] w fun e w' => e = .returned (.int .u8 (rotl y n : Nat)) ∧ w = w' := by
  have hc : n = 1 ∨ n = 2 ∨ n = 3 ∨ n = 4 := by omega
  rcases hc with rfl | rfl | rfl | rfl
  all_goals
    go_enter Tryd.func35, Tryd.ntmps35
    go_upto_region 2 with fail
    have b1 : bits .and .u64 1 7 = 1 := by decide
    have b2 : bits .and .u64 2 7 = 2 := by decide
    have b3 : bits .and .u64 3 7 = 3 := by decide
    have b4 : bits .and .u64 4 7 = 4 := by decide
    simp only [b1, b2, b3, b4]
    go_wp2_with fail
    have h1 := or8 (y * 2 ^ 1 % 256) (y / 2 ^ 7) (by omega) (by omega)
    have h2 := or8 (y * 2 ^ 2 % 256) (y / 2 ^ 6) (by omega) (by omega)
    have h3 := or8 (y * 2 ^ 3 % 256) (y / 2 ^ 5) (by omega) (by omega)
    have h4 := or8 (y * 2 ^ 4 % 256) (y / 2 ^ 4) (by omega) (by omega)
    push_cast at h1 h2 h3 h4
    go_ret
    first | exact ⟨congrArg (fun z : Int => Ending.returned (.int .u8 z)) h1, rfl⟩ | exact ⟨congrArg (fun z : Int => Ending.returned (.int .u8 z)) h2, rfl⟩ | exact ⟨congrArg (fun z : Int => Ending.returned (.int .u8 z)) h3, rfl⟩ | exact ⟨congrArg (fun z : Int => Ending.returned (.int .u8 z)) h4, rfl⟩
set_option maxHeartbeats 2000000 in
theorem times_ok (x y : Nat) (hx : x < 256) (hy : y < 256) (w : World) : Calls Tryd.prog 36 #[.int .u8 x, .int .u8 y] w fun e w' => e = .returned (.int .u8 (times x y : Nat)) ∧ w = w' := by
  go_enter Tryd.func36, Tryd.ntmps36
  go_wp2
  go_loop [0, 1, 5] (fun a b o => ∃ (n av bv ov : Nat), a = .int .u8 av ∧ b = .int .u8 bv ∧ o = .int .u8 ov ∧ av < 256 ∧ bv < 2 ^ n ∧ n ≤ 8 ∧ ov < 256 ∧ Hid (tmF n ov av bv = times x y)) (fun _ b _ => (intOf b).toNat)
  case atStart => exact ⟨8, x, y, 0, rfl, rfl, rfl, hx, hy, Nat.le_refl _, by omega, rfl⟩
  case round =>
    obtain ⟨n, av, bv, ov, rfl, rfl, rfl, ha, hb, hn, ho, hr⟩ := hrel
    by_cases h0 : bv = 0
    · subst h0
      go_wp2_with fail
      go_ret
      have e := hr.out
      rw [tmF_zero] at e
      rw [← e]
      exact ⟨rfl, rfl⟩
    · go_wp2_with (go_at_call 21; refine (twice_ok av ha _).mono ?_; rintro e w' ⟨rfl, rfl⟩)
      go_round
      case rel =>
        obtain ⟨n, rfl⟩ : ∃ m, n = m + 1 := by
          cases n with
          | zero => simp at hb; exact absurd hb h0
          | succ m => exact ⟨m, rfl⟩
        have hb8 : bv < 256 := Nat.lt_of_lt_of_le hb (Nat.pow_le_pow_right (by decide) hn)
        have e1 : av * (bv % 2) < 256 := by rcases Nat.mod_two_eq_zero_or_one bv with h | h <;> rw [h] <;> omega
        have h2 : ((av : Int) * bits .and .u8 (bv : Int) 1 % 256) = ((av * (bv % 2) : Nat) : Int) := by
          rw [and1_u8 _ hb8]
          rw [show (av : Int) * ((bv % 2 : Nat) : Int) = ((av * (bv % 2) : Nat) : Int) by push_cast; rfl]
          omega
        refine ⟨n, tw av, bv / 2, ov ^^^ av * (bv % 2), rfl, by go_num, ?_, tw_lt ha, ?_, by omega, xor_lt ho e1, ?_⟩
        · rw [h2, xor8 _ _ ho e1]
        · rw [Nat.pow_succ] at hb; omega
        · show tmF n _ _ _ = _
          rw [← times_step n ov av bv h0]; exact hr.out
      case measure => simp [intOf]; omega
end Go.Proofs.YteleedcpepifjaaDoor
