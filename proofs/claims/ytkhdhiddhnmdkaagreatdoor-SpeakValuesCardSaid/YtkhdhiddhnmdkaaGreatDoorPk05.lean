/-
sha2: its small functions.
sha2: the words of a block.
-/
import Derived.Test.YtkhdhiddhnmdkaaGreatDoorPk04
namespace Go.Proofs.YtkhdhiddhnmdkaaGreatDoor
open Go.RowKit
set_option maxRecDepth 100000
namespace Sha
def kl : Bool → List Int
  | true => [64, 80, 1, 8, 7, 19, 61, 6, 28, 34, 39, 14, 18, 41]
  | false => [32, 64, 7, 18, 3, 17, 19, 10, 2, 13, 22, 6, 11, 25]
def kw : Bool → Nat
  | true => 64
  | false => 32
def rot32 (x : Int) (n : Nat) : Int := bits .or .u32 (x * 2 ^ (32 - n) % 4294967296) (x / 2 ^ n)
def rot64 (x : Int) (n : Nat) : Int := bits .or .u64 (IntKind.u64.wrap (x * 2 ^ (64 - n))) (x / 2 ^ n)
def turnI : Bool → Int → Nat → Int
  | true, x, n => rot64 x n
  | false, x, n => IntKind.u64.wrap (rot32 (x % 4294967296) n)
def cutI (b : Bool) (x : Int) : Int := IntKind.u64.wrap (x * 2 ^ (64 - kw b)) / 2 ^ (64 - kw b)
def wordI (b : Bool) (x : Int) : Int := x / 2 ^ (64 - kw b)
def smallI (b : Bool) (x : Int) (p q r : Nat) : Int := bits .xor .u64 (bits .xor .u64 (turnI b x p) (turnI b x q)) (x / 2 ^ min r 64)
def largeI (b : Bool) (x : Int) (p q r : Nat) : Int := bits .xor .u64 (bits .xor .u64 (turnI b x p) (turnI b x q)) (turnI b x r)
end Sha
open Sha
theorem neg31 : ∀ n : Fin 32, n.val ≠ 0 → bits .and .u64 (IntKind.u64.wrap (-(n.val : Int))) 31 = ((32 - n.val : Nat) : Int) := by decide +kernel
theorem neg63 : ∀ n : Fin 64, n.val ≠ 0 → bits .and .u64 (IntKind.u64.wrap (-(n.val : Int))) 63 = ((64 - n.val : Nat) : Int) := by decide +kernel
abbrev kb (b : Bool) : List Value := iv .i64 (kl b)
theorem kind_size : (Tryz.prog.info? 62).map (·.size) = some 14 := by kernel_rfl
theorem neg_i64 (n : Nat) (h : n < 64) : IntKind.i64.wrap (-(n : Int)) = -(n : Int) := by rw [IntKind.wrap_i64]; omega
theorem kind_cell {b : Bool} {w : World} {c : Nat} (h : Blk w c 62 (kb b)) : w.cell? ⟨c, 0, none⟩ = some (.int .i64 (kw b : Nat)) := by cases b <;> exact h.cell 0 _ rfl
theorem rotl32_ok (x : Int) (n : Nat) (h0 : 0 < n) (h : n < 32) (w : World) : Calls Tryz.prog 116 #[.int .u32 x, .int .i64 (-(n : Int))] w fun e w' => e = .returned (.int .u32 (rot32 x n)) ∧ w = w' := by
  have e := neg31 ⟨n, h⟩ (by show n ≠ 0; omega)
  replace e : bits .and .u64 (IntKind.u64.wrap (-(n : Int))) 31 = ((32 - n : Nat) : Int) := e
  unfold rot32
  obtain ⟨m, hm, hm1, hm2⟩ : ∃ m : Nat, m = 32 - n ∧ 0 < m ∧ m < 32 := ⟨_, rfl, by omega, by omega⟩
  rw [← hm] at e ⊢
  have hn : (32 : Int) - (m : Int) = (n : Int) := by omega
  clear hm
  go_enter Tryz.func116, Tryz.ntmps116
  go_upto_region 2 with fail
  clear e
  go_wp2_with fail
  go_ret
  exact ⟨rfl, rfl⟩
theorem rotl64_ok (x : Int) (n : Nat) (h0 : 0 < n) (h : n < 64) (w : World) : Calls Tryz.prog 117 #[.int .u64 x, .int .i64 (-(n : Int))] w fun e w' => e = .returned (.int .u64 (rot64 x n)) ∧ w = w' := by
  have e := neg63 ⟨n, h⟩ (by show n ≠ 0; omega)
  replace e : bits .and .u64 (IntKind.u64.wrap (-(n : Int))) 63 = ((64 - n : Nat) : Int) := e
  unfold rot64
  obtain ⟨m, hm, hm1, hm2⟩ : ∃ m : Nat, m = 64 - n ∧ 0 < m ∧ m < 64 := ⟨_, rfl, by omega, by omega⟩
  rw [← hm] at e ⊢
  have hn : (64 : Int) - (m : Int) = (n : Int) := by omega
  clear hm
  go_enter Tryz.func117, Tryz.ntmps117
  go_upto_region 2 with fail
  clear e
  go_wp2_with fail
  go_ret
  exact ⟨rfl, rfl⟩
theorem turn_ok (b : Bool) (x : Int) (n : Nat) (h0 : 0 < n) (h : n < kw b) (w : World) : Calls Tryz.prog 105 #[.agg (kb b).toArray, .int .u64 x, .int .i64 n] w fun e w' => e = .returned (.int .u64 (turnI b x n)) ∧ Below w.heap.size w w' := by
  go_enter Tryz.func105, Tryz.ntmps105
  go_upto_region 1 with fail
  refine wp_gen (fun wx => Blk wx w.heap.size 62 (kb b) ∧ Below w.heap.size w wx) ⟨Blk.new w _ _, below1 _ _⟩ ?_
  rintro w1 ⟨B1, BW⟩
  have k0 := kind_cell B1
  have ng := neg_i64 n (by cases b <;> simp only [kw] at h <;> omega)
  cases b
  · have hr := rotl32_ok (x % 4294967296) n h0 h w1
    have HR := Lib.hid hr
    have k0 : w1.cell? ⟨w.heap.size, 0, none⟩ = some (.int .i64 32) := k0
    go_wp2_with (go_at_call 116; (first | rw [ng] | skip); refine HR.out.mono ?_; rintro e w' ⟨rfl, rfl⟩)
    go_ret
    exact ⟨rfl, BW⟩
  · have hr := rotl64_ok x n h0 h w1
    have HR := Lib.hid hr
    have k0 : w1.cell? ⟨w.heap.size, 0, none⟩ = some (.int .i64 64) := k0
    go_wp2_with (go_at_call 117; (first | rw [ng] | skip); refine HR.out.mono ?_; rintro e w' ⟨rfl, rfl⟩)
    go_ret
    exact ⟨rfl, BW⟩
theorem cut_ok' (b : Bool) (x : Int) (w : World) : Calls Tryz.prog 90 #[.agg (kb b).toArray, .int .u64 x] w fun e w' => e = .returned (.int .u64 (cutI b x)) ∧ Below w.heap.size w w' := by
  obtain ⟨m, hm, hm1⟩ : ∃ m : Nat, m = kw b ∧ m ≤ 64 := ⟨_, rfl, by cases b <;> decide⟩
  unfold cutI
  rw [← hm]
  go_enter Tryz.func90, Tryz.ntmps90
  go_upto_region 1 with fail
  refine wp_gen (fun wx => Blk wx w.heap.size 62 (kb b) ∧ Below w.heap.size w wx) ⟨Blk.new w _ _, below1 _ _⟩ ?_
  rintro w1 ⟨B1, BW⟩
  have k0 := kind_cell B1
  rw [← hm] at k0
  clear hm
  go_quiet (fail)
  go_wp2_with fail
  go_ret
  exact ⟨rfl, below_drewN BW _⟩
theorem word_ok' (b : Bool) (x : Int) (w : World) : Calls Tryz.prog 52 #[.agg (kb b).toArray, .int .u64 x] w fun e w' => e = .returned (.int .u64 (wordI b x)) ∧ Below w.heap.size w w' := by
  obtain ⟨m, hm, hm1⟩ : ∃ m : Nat, m = kw b ∧ m ≤ 64 := ⟨_, rfl, by cases b <;> decide⟩
  unfold wordI
  rw [← hm]
  go_enter Tryz.func52, Tryz.ntmps52
  go_upto_region 1 with fail
  refine wp_gen (fun wx => Blk wx w.heap.size 62 (kb b) ∧ Below w.heap.size w wx) ⟨Blk.new w _ _, below1 _ _⟩ ?_
  rintro w1 ⟨B1, BW⟩
  have k0 := kind_cell B1
  rw [← hm] at k0
  clear hm
  go_wp2_with fail
  go_ret
  exact ⟨rfl, BW⟩
theorem small_ok (b : Bool) (x : Int) (p q r : Nat) (hp : 0 < p) (hp2 : p < kw b) (hq : 0 < q) (hq2 : q < kw b) (w : World) :
    Calls Tryz.prog 104 #[.agg (kb b).toArray, .int .u64 x, .agg #[.int .i64 p, .int .i64 q, .int .i64 r]] w fun e w' => e = .returned (.int .u64 (smallI b x p q r)) ∧ Below w.heap.size w w' := by
  have TP := Lib.hid (fun w => turn_ok b x p hp hp2 w)
  have TQ := Lib.hid (fun w => turn_ok b x q hq hq2 w)
  clear hp hp2 hq hq2
  go_enter Tryz.func104, Tryz.ntmps104
  go_upto_region 1 with fail
  refine wp_gen (fun wx => Blk wx w.heap.size 62 (kb b) ∧ Blk wx (w.heap.size + 1) 60 [.int .i64 p, .int .i64 q, .int .i64 r] ∧ Below w.heap.size w wx) ⟨(Blk.new w _ _).alloc _, Blk.new2 _ _ _ [_, _, _], below2 _ _ _⟩ ?_
  rintro w1 ⟨B1, B2, BW⟩
  have C1 := B1.drew 1
  have C2 := B2.drew 1
  have k0 : ∀ w', Rw (w1.drewN 1) w' → w'.cell? ⟨w.heap.size + 1, 0, none⟩ = some (.int .i64 p) := fun w' h => (C2.rw h).cell 0 _ rfl
  have k1 : ∀ w', Rw (w1.drewN 1) w' → w'.cell? ⟨w.heap.size + 1, 1, none⟩ = some (.int .i64 q) := fun w' h => (C2.rw h).cell 1 _ rfl
  have k2 : ∀ w', Rw (w1.drewN 1) w' → w'.cell? ⟨w.heap.size + 1, 2, none⟩ = some (.int .i64 r) := fun w' h => (C2.rw h).cell 2 _ rfl
  have HB := Lib.hid (And.intro C1 BW)
  clear C1 C2 B1 B2 BW
  (refine region_quiet (C := fun w' => Rw (w1.drewN 1) w') (by kernel_rfl) (by kernel_rfl) (Rw.refl _) ?_)
  ((with_reducible refine wpQuiet_step (fun K hK => ?_)); refine quiet_loadB (n := 14) (fun w' hw' => HB.out.1.rw hw') Tryz.underlying62 rfl (by kernel_rfl) (by rw [iv_len]; cases b <;> rfl) (by first | rfl | simp [Region.wanted, yielded]) rfl (by go_simp) ?_; go_simp; (with_reducible apply hK); clear hK K)
  (iterate 3 ((with_reducible refine wpQuiet_step (fun K hK => ?_)); refine quiet_autoE (by first | rfl | simp [Region.wanted, yielded]) ?_; apply Exists.intro; refine ⟨fun w' hw' => ?_, ?_⟩; (focus (go_simp; (first | done | rfl | ((try go_ints); (try simp only [↓IntWalk.iteOmega, true_and]); (try go_simp); (first | done | rfl))))); go_simp; (with_reducible apply hK); clear hK K))
  ((with_reducible refine wpQuiet_step (fun K hK => ?_)); refine quiet_callE (by first | rfl | simp [Region.wanted, yielded]) ?_; apply Exists.intro; apply Exists.intro; refine ⟨fun w' => ?_, ?_⟩; (focus (go_simp; try (first | exact ⟨rfl, rfl⟩ | rfl))); apply Exists.intro; refine ⟨fun w' hw' => quiet_below hw' (TP.out w'), ?_⟩; go_simp; (with_reducible apply hK); clear hK K)
  ((with_reducible refine wpQuiet_step (fun K hK => ?_)); refine quiet_loadB (n := 14) (fun w' hw' => HB.out.1.rw hw') Tryz.underlying62 rfl (by kernel_rfl) (by rw [iv_len]; cases b <;> rfl) (by first | rfl | simp [Region.wanted, yielded]) rfl (by go_simp) ?_; go_simp; (with_reducible apply hK); clear hK K)
  (iterate 3 ((with_reducible refine wpQuiet_step (fun K hK => ?_)); refine quiet_autoE (by first | rfl | simp [Region.wanted, yielded]) ?_; apply Exists.intro; refine ⟨fun w' hw' => ?_, ?_⟩; (focus (go_simp; (first | done | rfl | ((try go_ints); (try simp only [↓IntWalk.iteOmega, true_and]); (try go_simp); (first | done | rfl))))); go_simp; (with_reducible apply hK); clear hK K))
  ((with_reducible refine wpQuiet_step (fun K hK => ?_)); refine quiet_callE (by first | rfl | simp [Region.wanted, yielded]) ?_; apply Exists.intro; apply Exists.intro; refine ⟨fun w' => ?_, ?_⟩; (focus (go_simp; try (first | exact ⟨rfl, rfl⟩ | rfl))); apply Exists.intro; refine ⟨fun w' hw' => quiet_below hw' (TQ.out w'), ?_⟩; go_simp; (with_reducible apply hK); clear hK K)
  (iterate 7 ((with_reducible refine wpQuiet_step (fun K hK => ?_)); refine quiet_autoE (by first | rfl | simp [Region.wanted, yielded]) ?_; apply Exists.intro; refine ⟨fun w' hw' => ?_, ?_⟩; (focus (go_simp; (first | done | rfl | ((try go_ints); (try simp only [↓IntWalk.iteOmega, true_and]); (try go_simp); (first | done | rfl))))); go_simp; (with_reducible apply hK); clear hK K))
  (refine wpQuiet_nil ?_; intro w5 hw5)
  go_wp2_with fail
  go_ret
  exact ⟨rfl, Rw.out (below_drewN HB.out.2 1) hw5⟩
theorem large_ok (b : Bool) (x : Int) (p q r : Nat) (hp : 0 < p) (hp2 : p < kw b) (hq : 0 < q) (hq2 : q < kw b) (hr : 0 < r) (hr2 : r < kw b) (w : World) :
    Calls Tryz.prog 89 #[.agg (kb b).toArray, .int .u64 x, .agg #[.int .i64 p, .int .i64 q, .int .i64 r]] w fun e w' => e = .returned (.int .u64 (largeI b x p q r)) ∧ Below w.heap.size w w' := by
  have TP := Lib.hid (fun w => turn_ok b x p hp hp2 w)
  have TQ := Lib.hid (fun w => turn_ok b x q hq hq2 w)
  have TR := Lib.hid (fun w => turn_ok b x r hr hr2 w)
  clear hp hp2 hq hq2 hr hr2
  go_enter Tryz.func89, Tryz.ntmps89
  go_upto_region 1 with fail
  refine wp_gen (fun wx => Blk wx w.heap.size 62 (kb b) ∧ Blk wx (w.heap.size + 1) 60 [.int .i64 p, .int .i64 q, .int .i64 r] ∧ Below w.heap.size w wx) ⟨(Blk.new w _ _).alloc _, Blk.new2 _ _ _ [_, _, _], below2 _ _ _⟩ ?_
  rintro w1 ⟨B1, B2, BW⟩
  have C1 := B1.drew 1
  have C2 := B2.drew 1
  have k0 : ∀ w', Rw (w1.drewN 1) w' → w'.cell? ⟨w.heap.size + 1, 0, none⟩ = some (.int .i64 p) := fun w' h => (C2.rw h).cell 0 _ rfl
  have k1 : ∀ w', Rw (w1.drewN 1) w' → w'.cell? ⟨w.heap.size + 1, 1, none⟩ = some (.int .i64 q) := fun w' h => (C2.rw h).cell 1 _ rfl
  have k2 : ∀ w', Rw (w1.drewN 1) w' → w'.cell? ⟨w.heap.size + 1, 2, none⟩ = some (.int .i64 r) := fun w' h => (C2.rw h).cell 2 _ rfl
  have HB := Lib.hid (And.intro C1 BW)
  clear C1 C2 B1 B2 BW
  (refine region_quiet (C := fun w' => Rw (w1.drewN 1) w') (by kernel_rfl) (by kernel_rfl) (Rw.refl _) ?_)
  ((with_reducible refine wpQuiet_step (fun K hK => ?_)); refine quiet_loadB (n := 14) (fun w' hw' => HB.out.1.rw hw') Tryz.underlying62 rfl (by kernel_rfl) (by rw [iv_len]; cases b <;> rfl) (by first | rfl | simp [Region.wanted, yielded]) rfl (by go_simp) ?_; go_simp; (with_reducible apply hK); clear hK K)
  (iterate 3 ((with_reducible refine wpQuiet_step (fun K hK => ?_)); refine quiet_autoE (by first | rfl | simp [Region.wanted, yielded]) ?_; apply Exists.intro; refine ⟨fun w' hw' => ?_, ?_⟩; (focus (go_simp; (first | done | rfl | ((try go_ints); (try simp only [↓IntWalk.iteOmega, true_and]); (try go_simp); (first | done | rfl))))); go_simp; (with_reducible apply hK); clear hK K))
  ((with_reducible refine wpQuiet_step (fun K hK => ?_)); refine quiet_callE (by first | rfl | simp [Region.wanted, yielded]) ?_; apply Exists.intro; apply Exists.intro; refine ⟨fun w' => ?_, ?_⟩; (focus (go_simp; try (first | exact ⟨rfl, rfl⟩ | rfl))); apply Exists.intro; refine ⟨fun w' hw' => quiet_below hw' (TP.out w'), ?_⟩; go_simp; (with_reducible apply hK); clear hK K)
  ((with_reducible refine wpQuiet_step (fun K hK => ?_)); refine quiet_loadB (n := 14) (fun w' hw' => HB.out.1.rw hw') Tryz.underlying62 rfl (by kernel_rfl) (by rw [iv_len]; cases b <;> rfl) (by first | rfl | simp [Region.wanted, yielded]) rfl (by go_simp) ?_; go_simp; (with_reducible apply hK); clear hK K)
  (iterate 3 ((with_reducible refine wpQuiet_step (fun K hK => ?_)); refine quiet_autoE (by first | rfl | simp [Region.wanted, yielded]) ?_; apply Exists.intro; refine ⟨fun w' hw' => ?_, ?_⟩; (focus (go_simp; (first | done | rfl | ((try go_ints); (try simp only [↓IntWalk.iteOmega, true_and]); (try go_simp); (first | done | rfl))))); go_simp; (with_reducible apply hK); clear hK K))
  ((with_reducible refine wpQuiet_step (fun K hK => ?_)); refine quiet_callE (by first | rfl | simp [Region.wanted, yielded]) ?_; apply Exists.intro; apply Exists.intro; refine ⟨fun w' => ?_, ?_⟩; (focus (go_simp; try (first | exact ⟨rfl, rfl⟩ | rfl))); apply Exists.intro; refine ⟨fun w' hw' => quiet_below hw' (TQ.out w'), ?_⟩; go_simp; (with_reducible apply hK); clear hK K)
  (iterate 1 ((with_reducible refine wpQuiet_step (fun K hK => ?_)); refine quiet_autoE (by first | rfl | simp [Region.wanted, yielded]) ?_; apply Exists.intro; refine ⟨fun w' hw' => ?_, ?_⟩; (focus (go_simp; (first | done | rfl | ((try go_ints); (try simp only [↓IntWalk.iteOmega, true_and]); (try go_simp); (first | done | rfl))))); go_simp; (with_reducible apply hK); clear hK K))
  ((with_reducible refine wpQuiet_step (fun K hK => ?_)); refine quiet_loadB (n := 14) (fun w' hw' => HB.out.1.rw hw') Tryz.underlying62 rfl (by kernel_rfl) (by rw [iv_len]; cases b <;> rfl) (by first | rfl | simp [Region.wanted, yielded]) rfl (by go_simp) ?_; go_simp; (with_reducible apply hK); clear hK K)
  (iterate 3 ((with_reducible refine wpQuiet_step (fun K hK => ?_)); refine quiet_autoE (by first | rfl | simp [Region.wanted, yielded]) ?_; apply Exists.intro; refine ⟨fun w' hw' => ?_, ?_⟩; (focus (go_simp; (first | done | rfl | ((try go_ints); (try simp only [↓IntWalk.iteOmega, true_and]); (try go_simp); (first | done | rfl))))); go_simp; (with_reducible apply hK); clear hK K))
  ((with_reducible refine wpQuiet_step (fun K hK => ?_)); refine quiet_callE (by first | rfl | simp [Region.wanted, yielded]) ?_; apply Exists.intro; apply Exists.intro; refine ⟨fun w' => ?_, ?_⟩; (focus (go_simp; try (first | exact ⟨rfl, rfl⟩ | rfl))); apply Exists.intro; refine ⟨fun w' hw' => quiet_below hw' (TR.out w'), ?_⟩; go_simp; (with_reducible apply hK); clear hK K)
  (iterate 2 ((with_reducible refine wpQuiet_step (fun K hK => ?_)); refine quiet_autoE (by first | rfl | simp [Region.wanted, yielded]) ?_; apply Exists.intro; refine ⟨fun w' hw' => ?_, ?_⟩; (focus (go_simp; (first | done | rfl | ((try go_ints); (try simp only [↓IntWalk.iteOmega, true_and]); (try go_simp); (first | done | rfl))))); go_simp; (with_reducible apply hK); clear hK K))
  (refine wpQuiet_nil ?_; intro w5 hw5)
  go_wp2_with fail
  go_ret
  exact ⟨rfl, Rw.out (below_drewN HB.out.2 1) hw5⟩
end Go.Proofs.YtkhdhiddhnmdkaaGreatDoor

namespace Go.Proofs.YtkhdhiddhnmdkaaGreatDoor
open Go.RowKit Sha
set_option maxRecDepth 100000
namespace Sha
def kn (b : Bool) (i : Nat) : Nat := ((kl b).getD i 0).toNat
def sm0 (b : Bool) (x : Int) : Int := smallI b x (kn b 2) (kn b 3) (kn b 4)
def sm1 (b : Bool) (x : Int) : Int := smallI b x (kn b 5) (kn b 6) (kn b 7)
def lg0 (b : Bool) (x : Int) : Int := largeI b x (kn b 8) (kn b 9) (kn b 10)
def lg1 (b : Bool) (x : Int) : Int := largeI b x (kn b 11) (kn b 12) (kn b 13)
abbrev w64 (x : Int) : Int := IntKind.u64.wrap x
def byI (s : List UInt8) (j : Nat) : Int := ((s.getD j 0).toNat : Nat)
def accI (s : List UInt8) (n t : Nat) : Nat → Int
  | 0 => 0
  | i + 1 => bits .or .u64 (w64 (accI s n t i * 256)) (w64 (byI s (t * n + i)))
def nextI (b : Bool) (l : List Int) (t : Nat) : Int := cutI b (w64 (w64 (w64 (sm1 b (l.getD (t - 2) 0) + l.getD (t - 7) 0) + sm0 b (l.getD (t - 15) 0)) + l.getD (t - 16) 0))
def schL (b : Bool) (s : List UInt8) : Nat → List Int
  | 0 => List.replicate 80 0
  | t + 1 => (schL b s t).set t (if t < 16 then accI s (kw b / 8) t (kw b / 8) else nextI b (schL b s t) t)
theorem schL_len (b : Bool) (s : List UInt8) : ∀ t, (schL b s t).length = 80
  | 0 => rfl
  | t + 1 => by rw [schL, List.length_set, schL_len b s t]
theorem set_same : ∀ (l : List Int) (i : Nat), l.set i (l.getD i 0) = l
  | [], _ => rfl
  | _ :: _, 0 => rfl
  | a :: r, i + 1 => by show a :: r.set i (r.getD i 0) = _; rw [set_same r i]
theorem schL_zero (b : Bool) (s : List UInt8) : ∀ t j, t ≤ j → (schL b s t).getD j 0 = 0
  | 0, j, _ => by unfold schL; rw [List.getD_eq_getElem?_getD, List.getElem?_replicate]; split <;> rfl
  | t + 1, j, h => by
    rw [schL, List.getD_eq_getElem?_getD, List.getElem?_set_ne (by omega), ← List.getD_eq_getElem?_getD]
    exact schL_zero b s t j (by omega)
theorem schL_start (b : Bool) (s : List UInt8) (n t : Nat) : (schL b s t).set t (accI s n t 0) = schL b s t := by
  have h := set_same (schL b s t) t
  rw [schL_zero b s t t (Nat.le_refl _)] at h
  exact h
theorem schL_set (b : Bool) (s : List UInt8) (t : Nat) (x : Int) (h : t < 80) : ((schL b s t).set t x).getD t 0 = x := by
  rw [List.getD_eq_getElem?_getD, List.getElem?_set_self (by rw [schL_len]; exact h)]
  rfl
def kr : Bool → Nat
  | true => 80
  | false => 64
theorem kr_le (b : Bool) : kr b ≤ 80 := by cases b <;> decide
end Sha
abbrev k3 (b : Bool) (i : Nat) : List Value := [.int .i64 (kn b i : Nat), .int .i64 (kn b (i + 1) : Nat), .int .i64 (kn b (i + 2) : Nat)]
theorem kb_get (b : Bool) (i : Nat) (h : i < 14) : (kb b)[i]? = some (.int .i64 (kn b i : Nat)) := by
  have : ∀ b : Bool, ∀ i : Fin 14, (kl b).getD i.val 0 = ((kn b i.val : Nat) : Int) := by decide
  rw [iv_get _ _ _ (by cases b <;> exact h), this b ⟨i, h⟩]
theorem kb_range (b : Bool) (i : Nat) (h : i + 2 < 14) {w : World} {c : Nat} {t : TypeId} (hb : Blk w c t (kb b)) : w.rangeAt c i (k3 b i) := hb.range i _ fun j v hv => by
  match j, hv with
  | 0, hv => rw [← hv]; exact kb_get b i (by omega)
  | 1, hv => rw [← hv]; exact kb_get b (i + 1) (by omega)
  | 2, hv => rw [← hv]; exact kb_get b (i + 2) (by omega)
theorem sm0_ok (b : Bool) (x : Int) (w : World) : Calls Tryz.prog 104 #[.agg (kb b).toArray, .int .u64 x, .agg (k3 b 2).toArray] w fun e w' => e = .returned (.int .u64 (sm0 b x)) ∧ Below w.heap.size w w' := by
  cases b <;> exact small_ok _ x _ _ _ (by decide) (by decide) (by decide) (by decide) w
theorem sm1_ok (b : Bool) (x : Int) (w : World) : Calls Tryz.prog 104 #[.agg (kb b).toArray, .int .u64 x, .agg (k3 b 5).toArray] w fun e w' => e = .returned (.int .u64 (sm1 b x)) ∧ Below w.heap.size w w' := by
  cases b <;> exact small_ok _ x _ _ _ (by decide) (by decide) (by decide) (by decide) w
theorem lg0_ok (b : Bool) (x : Int) (w : World) : Calls Tryz.prog 89 #[.agg (kb b).toArray, .int .u64 x, .agg (k3 b 8).toArray] w fun e w' => e = .returned (.int .u64 (lg0 b x)) ∧ Below w.heap.size w w' := by
  cases b <;> exact large_ok _ x _ _ _ (by decide) (by decide) (by decide) (by decide) (by decide) (by decide) w
theorem lg1_ok (b : Bool) (x : Int) (w : World) : Calls Tryz.prog 89 #[.agg (kb b).toArray, .int .u64 x, .agg (k3 b 11).toArray] w fun e w' => e = .returned (.int .u64 (lg1 b x)) ∧ Below w.heap.size w w' := by
  cases b <;> exact large_ok _ x _ _ _ (by decide) (by decide) (by decide) (by decide) (by decide) (by decide) w
theorem arr80_size : (Tryz.prog.info? 139).map (·.size) = some 80 := by kernel_rfl
set_option maxHeartbeats 4000000 in
theorem sched_ok (b : Bool) (s : ByteArray) (hs : s.size = 2 * kw b) (w : World) :
    Calls Tryz.prog 88 #[.agg (kb b).toArray, .string s] w fun e w' => e = .returned (.agg (iv .u64 (schL b s.data.toList (kr b))).toArray) ∧ Below w.heap.size w w' := by
  obtain ⟨n, hn, hn8, hnk⟩ : ∃ n : Nat, n = kw b / 8 ∧ n ≤ 8 ∧ s.size = 16 * n := ⟨_, rfl, by cases b <;> decide, by rw [hs]; cases b <;> rfl⟩
  obtain ⟨R, hR, hR2⟩ : ∃ R : Nat, R = kr b ∧ R ≤ 80 := ⟨_, rfl, kr_le b⟩
  have hkw : ((kw b : Nat) : Int).tdiv 8 = (n : Int) := by rw [hn]; cases b <;> rfl
  have HK := Lib.hid (And.intro hn (And.intro hR hkw))
  obtain ⟨L, hL⟩ : ∃ L, L = s.data.toList := ⟨_, rfl⟩
  have hLs : L.length = s.size := by rw [hL]; exact Array.length_toList
  have HSI : Hid (∀ j (h : j < s.size), ((s[j]'h).toNat : Int) = byI L j) := Lib.hid fun j h => by rw [by_index, ← hL]; rfl
  rw [← hR, ← hL]
  clear hs hn hR hkw hL
  go_enter Tryz.func88, Tryz.ntmps88
  go_upto_region 2 with fail
  rw [show Obj.cells Tryz.zeroCells139 139 = .cells (iv .u64 (schL b L 0)).toArray 139 by kernel_rfl]
  refine wp_gen (fun wx => Blk wx w.heap.size 62 (kb b) ∧ Blk wx (w.heap.size + 1) 139 (iv .u64 (schL b L 0)) ∧ Blk wx (w.heap.size + 2) 139 (iv .u64 (schL b L 0)) ∧ Below w.heap.size w wx) ⟨((Blk.new w _ (kb b)).alloc _).alloc _, (Blk.new2 _ _ _ (iv .u64 _)).alloc _, Blk.new3 _ _ _ _ (iv .u64 _), below3 _ _ _ _⟩ ?_
  intro w1 H1
  have H2 := Lib.hid H1
  rw [show w.heap.size + 1 + 1 = w.heap.size + 2 from rfl]
  have k0 : w1.cell? ⟨w.heap.size, 0, none⟩ = some (.int .i64 (kw b : Nat)) := kind_cell H1.1
  have k1 : w1.cell? ⟨w.heap.size, 1, none⟩ = some (.int .i64 (R : Nat)) := by rw [HK.out.2.1]; cases b <;> exact H1.1.cell 1 _ rfl
  have hkw : ((kw b : Nat) : Int).tdiv 8 = (n : Int) := HK.out.2.2
  clear H1
  go_wp2_with fail
  clear k0 k1 hkw
  go_loopw [14] (fun v wr => ∃ t : Nat, v = .int .i64 t ∧ t ≤ R ∧ Hid (Blk wr w.heap.size 62 (kb b) ∧ Blk wr (w.heap.size + 1) 139 (iv .u64 (schL b L 0)) ∧ Blk wr (w.heap.size + 2) 139 (iv .u64 (schL b L t)) ∧ Below w.heap.size w wr)) (fun v _ => R - (intOf v).toNat)
  case atStart => exact ⟨0, rfl, by omega, H2.out⟩
  case round =>
    obtain ⟨t, rfl, ht, hr⟩ := hrel
    clear H2
    rcases Nat.lt_or_ge t R with h | h
    · have hdt : decide ((t : Int) < (R : Int)) = true := decide_eq_true (by omega)
      rcases Nat.lt_or_ge t 16 with h16 | h16
      · go_upto_region 7 with fail
        go_wp2_with fail
        rw [show decide ((t : Int) < 16) = true from decide_eq_true (by omega)]
        go_loopw [20] (fun v wr => ∃ i : Nat, v = .int .i64 i ∧ i ≤ n ∧ Hid (Blk wr w.heap.size 62 (kb b) ∧ Blk wr (w.heap.size + 1) 139 (iv .u64 (schL b L 0)) ∧ Blk wr (w.heap.size + 2) 139 (iv .u64 ((schL b L t).set t (accI L n t i))) ∧ Below w.heap.size w wr)) (fun v _ => n - (intOf v).toNat)
        case atStart => exact ⟨0, rfl, by omega, by rw [schL_start]; exact hr.out⟩
        case round =>
          obtain ⟨i, rfl, hi, hq⟩ := hrel
          clear hr
          rcases Nat.lt_or_ge i n with h2 | h2
          · obtain ⟨O1, O2, O3, BW⟩ := hq.out
            have c3 := O3.icell t (by rw [set_len, schL_len]; omega)
            rw [schL_set _ _ _ _ (by omega)] at c3
            have f3 := O3.free t
            have hidx : t * n + i < s.size := by
              have : t * n ≤ 15 * n := Nat.mul_le_mul_right _ (by omega)
              omega
            have hacc : accI L n t (i + 1) = bits .or .u64 (w64 (accI L n t i * 256)) (w64 (byI L (t * n + i))) := rfl
            obtain ⟨m, hm⟩ : ∃ m, m = t * n + i := ⟨_, rfl⟩
            have hmI : (t : Int) * (n : Int) + (i : Int) = (m : Int) := by rw [hm]; push_cast; rfl
            rw [← hm] at hidx hacc
            have hby := HSI.out m hidx
            clear hm
            have S1 := Blk.iset (w := wr.drew) O3 t (accI L n t (i + 1))
            rw [List.set_set] at S1
            rw [hacc] at S1
            have HS := Lib.hid (And.intro (Blk.far (w := wr.drew) O1 (show w.heap.size ≠ w.heap.size + 2 by omega) t (.int .u64 (bits .or .u64 (w64 (accI L n t i * 256)) (w64 (byI L m))))) (And.intro (Blk.far (w := wr.drew) O2 (show w.heap.size + 1 ≠ w.heap.size + 2 by omega) t (.int .u64 (bits .or .u64 (w64 (accI L n t i * 256)) (w64 (byI L m))))) (And.intro S1 (below_set' (below_drewN BW 1) (w.heap.size + 2) t (.int .u64 (bits .or .u64 (w64 (accI L n t i * 256)) (w64 (byI L m)))) (by omega)))))
            have HACC := Lib.hid hacc
            clear O1 O2 O3 BW S1 hacc
            go_upto_region 10 with fail
            (refine still_tail 15 (by kernel_rfl) (by kernel_rfl) ?_; simp only [List.take_succ_cons, List.take_zero, List.drop_succ_cons, List.drop_zero]; repeat (refine wpStill_step (fun K hK => ?_); go_simp; (try go_ints); (try simp only [↓IntWalk.iteOmega, true_and]); (with_reducible apply hK); clear hK K)); refine wpStill_nil ?_
            go_wp2_with fail
            go_roundw
            case rel => exact ⟨i + 1, by go_num, by omega, by rw [HACC.out]; exact HS.out⟩
            case measure => simp [intOf]; omega
          · have hin : i = n := by omega
            go_wp2_with fail
            go_roundw
            case rel =>
              refine ⟨t + 1, by go_num, by omega, ?_⟩
              have e : schL b L (t + 1) = (schL b L t).set t (accI L n t n) := by rw [schL, if_pos h16, ← HK.out.1]
              have hq' := hq.out
              rw [hin, ← e] at hq'
              exact hq'
            case measure => simp [intOf]; omega
      · obtain ⟨O1, O2, O3, BW⟩ := hr.out
        have C1 := O1.drew 1
        have C3 := O3.drew 1
        obtain ⟨t2, ht2⟩ : ∃ t2, t2 = t - 2 := ⟨_, rfl⟩
        have e2 : (t : Int) - 2 = (t2 : Int) := by omega
        obtain ⟨t7, ht7⟩ : ∃ t7, t7 = t - 7 := ⟨_, rfl⟩
        have e7 : (t : Int) - 7 = (t7 : Int) := by omega
        obtain ⟨t15, ht15⟩ : ∃ t15, t15 = t - 15 := ⟨_, rfl⟩
        have e15 : (t : Int) - 15 = (t15 : Int) := by omega
        obtain ⟨t16, ht16⟩ : ∃ t16, t16 = t - 16 := ⟨_, rfl⟩
        have e16 : (t : Int) - 16 = (t16 : Int) := by omega
        have k2 : ∀ w', Rw (wr.drewN 1) w' → w'.cell? ⟨w.heap.size + 2, t2, none⟩ = some (.int .u64 ((schL b L t).getD t2 0)) := fun w' h => (C3.rw h).icell _ (by rw [schL_len]; omega)
        have k7 : ∀ w', Rw (wr.drewN 1) w' → w'.cell? ⟨w.heap.size + 2, t7, none⟩ = some (.int .u64 ((schL b L t).getD t7 0)) := fun w' h => (C3.rw h).icell _ (by rw [schL_len]; omega)
        have k15 : ∀ w', Rw (wr.drewN 1) w' → w'.cell? ⟨w.heap.size + 2, t15, none⟩ = some (.int .u64 ((schL b L t).getD t15 0)) := fun w' h => (C3.rw h).icell _ (by rw [schL_len]; omega)
        have k16 : ∀ w', Rw (wr.drewN 1) w' → w'.cell? ⟨w.heap.size + 2, t16, none⟩ = some (.int .u64 ((schL b L t).getD t16 0)) := fun w' h => (C3.rw h).icell _ (by rw [schL_len]; omega)
        have HB := Lib.hid (And.intro C1 (And.intro C3 (And.intro (O2.drew 1) (below_drewN BW 1))))
        have hnx : nextI b (schL b L t) t = cutI b (w64 (w64 (w64 (sm1 b ((schL b L t).getD t2 0) + (schL b L t).getD t7 0) + sm0 b ((schL b L t).getD t15 0)) + (schL b L t).getD t16 0)) := by rw [ht2, ht7, ht15, ht16]; rfl
        have HNX := Lib.hid hnx
        generalize (schL b L t).getD t2 0 = x2 at *
        generalize (schL b L t).getD t7 0 = x7 at *
        generalize (schL b L t).getD t15 0 = x15 at *
        generalize (schL b L t).getD t16 0 = x16 at *
        have l2 : t2 < 80 := by omega
        have l7 : t7 < 80 := by omega
        have l15 : t15 < 80 := by omega
        have l16 : t16 < 80 := by omega
        clear O1 O2 O3 BW C1 C3 hnx ht2 ht7 ht15 ht16
        go_upto_region 12 with fail
        (refine wp_region_quiet_tail (C := fun w' => Rw (wr.drewN 1) w') 31 (by kernel_rfl) (by kernel_rfl) (Rw.refl _) ?_; simp only [List.take_succ_cons, List.take_zero, List.drop_succ_cons, List.drop_zero])
        (iterate 1 ((with_reducible refine wpQuiet_step (fun K hK => ?_)); refine quiet_autoE (by first | rfl | simp [Region.wanted, yielded]) ?_; apply Exists.intro; refine ⟨fun w' hw' => ?_, ?_⟩; (focus (go_simp; (first | done | rfl | ((try go_ints); (try simp only [↓IntWalk.iteOmega, true_and]); (try go_simp); (first | done | rfl))))); go_simp; (with_reducible apply hK); clear hK K))
        ((with_reducible refine wpQuiet_step (fun K hK => ?_)); refine quiet_loadB (n := 14) (fun w' hw' => HB.out.1.rw hw') Tryz.underlying62 rfl (by kernel_rfl) (by rw [iv_len]; cases b <;> rfl) (by first | rfl | simp [Region.wanted, yielded]) rfl (by go_simp) ?_; go_simp; (with_reducible apply hK); clear hK K)
        ((with_reducible refine wpQuiet_step (fun K hK => ?_)); refine quiet_loadB (n := 14) (fun w' hw' => HB.out.1.rw hw') Tryz.underlying62 rfl (by kernel_rfl) (by rw [iv_len]; cases b <;> rfl) (by first | rfl | simp [Region.wanted, yielded]) rfl (by go_simp) ?_; go_simp; (with_reducible apply hK); clear hK K)
        (iterate 5 ((with_reducible refine wpQuiet_step (fun K hK => ?_)); refine quiet_autoE (by first | rfl | simp [Region.wanted, yielded]) ?_; apply Exists.intro; refine ⟨fun w' hw' => ?_, ?_⟩; (focus (go_simp; (first | done | rfl | ((try go_ints); (try simp only [↓IntWalk.iteOmega]); (try go_simp); (first | done | rfl))))); go_simp; (with_reducible apply hK); clear hK K))
        ((with_reducible refine wpQuiet_step (fun K hK => ?_)); refine quiet_loadN (fun w' hw' => kb_range b 5 (by decide) (HB.out.1.rw hw')) Tryz.underlying60 rfl (by kernel_rfl) (by first | rfl | simp [Region.wanted, yielded]) rfl (by go_simp) ?_; go_simp; (with_reducible apply hK); clear hK K)
        ((with_reducible refine wpQuiet_step (fun K hK => ?_)); refine quiet_callE (by first | rfl | simp [Region.wanted, yielded]) ?_; apply Exists.intro; apply Exists.intro; refine ⟨fun w' => ?_, ?_⟩; (focus (go_simp; try (first | exact ⟨rfl, rfl⟩ | rfl))); apply Exists.intro; refine ⟨fun w' hw' => quiet_below hw' (sm1_ok b x2 w'), ?_⟩; go_simp; (with_reducible apply hK); clear hK K)
        (iterate 5 ((with_reducible refine wpQuiet_step (fun K hK => ?_)); refine quiet_autoE (by first | rfl | simp [Region.wanted, yielded]) ?_; apply Exists.intro; refine ⟨fun w' hw' => ?_, ?_⟩; (focus (go_simp; (first | done | rfl | ((try go_ints); (try simp only [↓IntWalk.iteOmega]); (try go_simp); (first | done | rfl))))); go_simp; (with_reducible apply hK); clear hK K))
        ((with_reducible refine wpQuiet_step (fun K hK => ?_)); refine quiet_loadB (n := 14) (fun w' hw' => HB.out.1.rw hw') Tryz.underlying62 rfl (by kernel_rfl) (by rw [iv_len]; cases b <;> rfl) (by first | rfl | simp [Region.wanted, yielded]) rfl (by go_simp) ?_; go_simp; (with_reducible apply hK); clear hK K)
        (iterate 5 ((with_reducible refine wpQuiet_step (fun K hK => ?_)); refine quiet_autoE (by first | rfl | simp [Region.wanted, yielded]) ?_; apply Exists.intro; refine ⟨fun w' hw' => ?_, ?_⟩; (focus (go_simp; (first | done | rfl | ((try go_ints); (try simp only [↓IntWalk.iteOmega]); (try go_simp); (first | done | rfl))))); go_simp; (with_reducible apply hK); clear hK K))
        ((with_reducible refine wpQuiet_step (fun K hK => ?_)); refine quiet_loadN (fun w' hw' => kb_range b 2 (by decide) (HB.out.1.rw hw')) Tryz.underlying60 rfl (by kernel_rfl) (by first | rfl | simp [Region.wanted, yielded]) rfl (by go_simp) ?_; go_simp; (with_reducible apply hK); clear hK K)
        ((with_reducible refine wpQuiet_step (fun K hK => ?_)); refine quiet_callE (by first | rfl | simp [Region.wanted, yielded]) ?_; apply Exists.intro; apply Exists.intro; refine ⟨fun w' => ?_, ?_⟩; (focus (go_simp; try (first | exact ⟨rfl, rfl⟩ | rfl))); apply Exists.intro; refine ⟨fun w' hw' => quiet_below hw' (sm0_ok b x15 w'), ?_⟩; go_simp; (with_reducible apply hK); clear hK K)
        (iterate 6 ((with_reducible refine wpQuiet_step (fun K hK => ?_)); refine quiet_autoE (by first | rfl | simp [Region.wanted, yielded]) ?_; apply Exists.intro; refine ⟨fun w' hw' => ?_, ?_⟩; (focus (go_simp; (first | done | rfl | ((try go_ints); (try simp only [↓IntWalk.iteOmega]); (try go_simp); (first | done | rfl))))); go_simp; (with_reducible apply hK); clear hK K))
        ((with_reducible refine wpQuiet_step (fun K hK => ?_)); refine quiet_callE (by first | rfl | simp [Region.wanted, yielded]) ?_; apply Exists.intro; apply Exists.intro; refine ⟨fun w' => ?_, ?_⟩; (focus (go_simp; try (first | exact ⟨rfl, rfl⟩ | rfl))); apply Exists.intro; refine ⟨fun w' hw' => quiet_below hw' (cut_ok' b _ w'), ?_⟩; go_simp; (with_reducible apply hK); clear hK K)
        (iterate 1 ((with_reducible refine wpQuiet_step (fun K hK => ?_)); refine quiet_autoE (by first | rfl | simp [Region.wanted, yielded]) ?_; apply Exists.intro; refine ⟨fun w' hw' => ?_, ?_⟩; (focus (go_simp; (first | done | rfl | ((try go_ints); (try simp only [↓IntWalk.iteOmega]); (try go_simp); (first | done | rfl))))); go_simp; (with_reducible apply hK); clear hK K))
        refine wpQuiet_nil ?_
        intro w5 hw5
        have O1 := HB.out.1.rw hw5
        have O3 := HB.out.2.1.rw hw5
        have O2 := HB.out.2.2.1.rw hw5
        have BW := Rw.out HB.out.2.2.2 hw5
        have c3 := O3.icell t (by rw [schL_len]; omega)
        have f3 := O3.free t
        obtain ⟨z, hz⟩ : ∃ z, z = nextI b (schL b L t) t := ⟨_, rfl⟩
        have S1 := O3.iset t z
        rw [hz, show (schL b L t).set t (nextI b (schL b L t) t) = schL b L (t + 1) by rw [schL, if_neg (by omega)], ← hz] at S1
        have hz2 := hz.trans HNX.out
        rw [← hz2]
        have HS := Lib.hid (And.intro (Blk.far O1 (show w.heap.size ≠ w.heap.size + 2 by omega) t (.int .u64 z)) (And.intro (Blk.far O2 (show w.heap.size + 1 ≠ w.heap.size + 2 by omega) t (.int .u64 z)) (And.intro S1 (below_set' BW (w.heap.size + 2) t (.int .u64 z) (by omega)))))
        clear O1 O2 O3 BW S1 hz hz2 HNX HB k2 k7 k15 k16
        go_wp2_with fail
        go_roundw
        case rel => exact ⟨t + 1, by go_num, by omega, HS.out⟩
        case measure => simp [intOf]; omega
    · have htR : t = R := by omega
      have LX : Hid ((iv .u64 (schL b L R)).length = 80) := by rw [iv_len]; exact schL_len _ _ _
      have LY : Hid ((iv .u64 (schL b L 0)).length = 80) := by rw [iv_len]; exact schL_len _ _ _
      rw [htR] at hr
      clear htR
      go_wp2_with (first | refine load_blk hr.out.2.2.1 Tryz.underlying139 rfl arr80_size LX.out rfl rfl rfl ?_ | refine store_blk hr.out.2.1 arr80_size LX.out LY.out (iv_one _ _) rfl rfl rfl rfl ?_)
      exact ret_blk rfl (Blk.setRow hr.out.2.1 _) Tryz.underlying139 rfl arr80_size LX.out rfl rfl ⟨rfl, below_row hr.out.2.2.2 _ _ (by omega)⟩
end Go.Proofs.YtkhdhiddhnmdkaaGreatDoor
