/-
chacha: word, the quarter round. (Printed by tools/cha_gen.py.)
-/
import Derived.Test.YtcbkbjpdfanjpaaGreatDoorPk07
namespace Go.Proofs.YtcbkbjpdfanjpaaGreatDoor
open Go.RowKit
set_option maxRecDepth 100000
namespace Cha
def rotp (x : Int) (n : Nat) : Int := bits .or .u32 (x * 2 ^ n % 4294967296) (x / 2 ^ (32 - n))
abbrev w32 (x : Int) : Int := IntKind.u32.wrap x
def wordI (a b c d : Int) : Int := bits .or .u32 (bits .or .u32 (bits .or .u32 (w32 a) (w32 (w32 b * 256))) (w32 (w32 c * 65536))) (w32 (w32 d * 16777216))
def addF (x : List Int) (i j : Nat) : List Int := x.set i (IntKind.u32.wrap (x.getD i 0 + x.getD j 0))
def rotF (x : List Int) (i j n : Nat) : List Int := x.set i (rotp (bits .xor .u32 (x.getD i 0) (x.getD j 0)) n)
theorem addF_len (x : List Int) (i j : Nat) : (addF x i j).length = x.length := List.length_set ..
theorem rotF_len (x : List Int) (i j n : Nat) : (rotF x i j n).length = x.length := List.length_set ..
def quarterF (x : List Int) (a b c d : Nat) : List Int :=
  rotF (addF (rotF (addF (rotF (addF (rotF (addF x a b) d a 16) c d) b c 12) a b) d a 8) c d) b c 7
theorem quarter_len (x : List Int) (a b c d : Nat) : (quarterF x a b c d).length = x.length := by
  unfold quarterF
  simp only [addF_len, rotF_len]
end Cha
open Cha
theorem pos31 : ∀ n : Fin 32, bits .and .u64 (n.val : Int) 31 = (n.val : Int) := by decide +kernel
theorem rotp_ok (x : Int) (n : Nat) (h0 : 0 < n) (h : n < 32) (w : World) : Calls Tryz.prog 118 #[.int .u32 x, .int .i64 (n : Int)] w fun e w' => e = .returned (.int .u32 (rotp x n)) ∧ w = w' := by
  have e := pos31 ⟨n, h⟩
  replace e : bits .and .u64 (n : Int) 31 = (n : Int) := e
  unfold rotp
  obtain ⟨m, hm, hm1, hm2⟩ : ∃ m : Nat, m = 32 - n ∧ 0 < m ∧ m < 32 := ⟨_, rfl, by omega, by omega⟩
  rw [← hm]
  have hn : (32 : Int) - (n : Int) = (m : Int) := by omega
  clear hm
  go_enter Tryz.func118, Tryz.ntmps118
  go_upto_region 2 with fail
  go_wp2_with fail
  go_ret
  exact ⟨rfl, rfl⟩
theorem chaWord_ok (g off len cap : Nat) (a b c d : Int) (w : World) (hl : 4 ≤ len) (h : w.rangeAt g off [.int .u8 a, .int .u8 b, .int .u8 c, .int .u8 d]) :
    Calls Tryz.prog 104 #[.slice (some ⟨g, off, none⟩) len cap] w fun e w' => e = .returned (.int .u32 (wordI a b c d)) ∧ Rw w w' := by
  have h0 := h 0 _ rfl
  have h1 := h 1 _ rfl
  have h2 := h 2 _ rfl
  have h3 := h 3 _ rfl
  have KB : ∀ w', Rw (w.drewN 1) w' → ∀ p v, w.cell? p = some v → w'.cell? p = some v := fun w' hw p v hp => (Keeps.of_below (F := fun _ => False) (Rw.out (below_drewN (Below.refl _ _) 1) hw)).cell hp id
  have q0 : ∀ w', Rw (w.drewN 1) w' → w'.cell? ⟨g, off, none⟩ = some (.int .u8 a) := fun w' hw => KB w' hw _ _ h0
  have q1 : ∀ w', Rw (w.drewN 1) w' → w'.cell? ⟨g, off + 1, none⟩ = some (.int .u8 b) := fun w' hw => KB w' hw _ _ h1
  have q2 : ∀ w', Rw (w.drewN 1) w' → w'.cell? ⟨g, off + 2, none⟩ = some (.int .u8 c) := fun w' hw => KB w' hw _ _ h2
  have q3 : ∀ w', Rw (w.drewN 1) w' → w'.cell? ⟨g, off + 3, none⟩ = some (.int .u8 d) := fun w' hw => KB w' hw _ _ h3
  clear h h0 h1 h2 h3 KB
  go_enter Tryz.func104, Tryz.ntmps104
  go_upto_region 1 with fail
  (refine region_quiet (C := fun w' => Rw (w.drewN 1) w') (by kernel_rfl) (by kernel_rfl) (Rw.refl _) ?_)
  (repeat ((with_reducible refine wpQuiet_step (fun K hK => ?_)); refine quiet_autoE (by first | rfl | simp [Region.wanted, yielded]) ?_; apply Exists.intro; refine ⟨fun w' hw' => ?_, ?_⟩; (focus (go_simp; (first | done | rfl | ((try go_ints); (try simp only [↓IntWalk.iteOmega]); (try go_simp); (first | done | rfl))))); go_simp; (with_reducible apply hK); clear hK K))
  refine wpQuiet_nil ?_
  intro w5 hw5
  go_wp2_with fail
  go_ret
  exact ⟨rfl, Rw.out (below_drewN (Below.refl _ _) 1) hw5⟩
set_option maxHeartbeats 8000000 in
theorem quarter_ok (hb a b c d : Nat) (X0 : List Int) (u0 : World) (ha : a < 16) (hb' : b < 16) (hc : c < 16) (hd : d < 16) (hB : Blk u0 hb 150 (iv .u32 X0)) (hl : X0.length = 16) :
    Calls Tryz.prog 105 #[.pointer (some ⟨hb, 0, none⟩), .int .i64 a, .int .i64 b, .int .i64 c, .int .i64 d] u0 fun e w' => e = .returned (.tuple #[]) ∧ Blk w' hb 150 (iv .u32 (quarterF X0 a b c d)) ∧ Keeps (fun k => k = hb) u0 w' := by
  have H0 : Hid (Blk u0 hb 150 (iv .u32 X0) ∧ X0.length = 16 ∧ Keeps (fun k => k = hb) u0 u0) := Lib.hid ⟨hB, hl, Keeps.refl _ _⟩
  have hQ : quarterF X0 a b c d = rotF (addF (rotF (addF (rotF (addF (rotF (addF X0 a b) d a 16) c d) b c 12) a b) d a 8) c d) b c 7 := rfl
  have HQ := Lib.hid hQ
  clear hQ hB hl
  go_enter Tryz.func105, Tryz.ntmps105
  go_upto_region 0 with fail
  have qi : ∀ w', Rw (u0.drewN 1) w' → w'.cell? ⟨hb, a, none⟩ = some (.int .u32 (X0.getD a 0)) := fun w' h => ((H0.out.1.drew 1).rw h).icell a (by have := H0.out.2.1; omega)
  have qj : ∀ w', Rw (u0.drewN 1) w' → w'.cell? ⟨hb, b, none⟩ = some (.int .u32 (X0.getD b 0)) := fun w' h => ((H0.out.1.drew 1).rw h).icell b (by have := H0.out.2.1; omega)
  have hF : Hid (addF X0 a b = X0.set a (IntKind.u32.wrap (X0.getD a 0 + X0.getD b 0))) := rfl
  generalize X0.getD a 0 = vi at *
  generalize X0.getD b 0 = vj at *
  (refine wp_region_quiet_tail (C := fun w' => Rw (u0.drewN 1) w') 13 (by kernel_rfl) (by kernel_rfl) (Rw.refl _) ?_; simp only [List.take_succ_cons, List.take_zero, List.drop_succ_cons, List.drop_zero])
  (repeat ((with_reducible refine wpQuiet_step (fun K hK => ?_)); refine quiet_autoE (by first | rfl | simp [Region.wanted, yielded]) ?_; apply Exists.intro; refine ⟨fun w' hw' => ?_, ?_⟩; (focus (go_simp; (first | done | rfl | ((try go_ints); (try simp only [↓IntWalk.iteOmega]); (try go_simp); (first | done | rfl))))); go_simp; (with_reducible apply hK); clear hK K))
  refine wpQuiet_nil ?_
  intro w5 hw5
  have O := (H0.out.1.drew 1).rw hw5
  have ci := O.icell a (by have := H0.out.2.1; omega)
  have fi := O.free a
  have S1 := O.iset a (IntKind.u32.wrap (vi + vj))
  rw [← hF.out] at S1
  have KW : Keeps (fun k => k = hb) u0 w5 := (H0.out.2.2.drewN 1).trans (Keeps.of_below (F := fun _ => False) hw5) (fun _ _ f => f.elim)
  have HN : Hid (Blk (w5.setCell ⟨hb, a, none⟩ (.int .u32 (IntKind.u32.wrap (vi + vj)))) hb 150 (iv .u32 (addF X0 a b)) ∧ (addF X0 a b).length = 16 ∧ Keeps (fun k => k = hb) u0 (w5.setCell ⟨hb, a, none⟩ (.int .u32 (IntKind.u32.wrap (vi + vj))))) :=
    Lib.hid ⟨S1, by rw [addF_len]; exact H0.out.2.1, KW.set hb a _ (fun _ => rfl)⟩
  clear O S1 KW hw5 hF qi qj
  go_upto_region 1 with fail
  refine wp_gen (fun wx => Blk wx hb 150 (iv .u32 (addF X0 a b)) ∧ (addF X0 a b).length = 16 ∧ Keeps (fun k => k = hb) u0 wx) HN.out ?_
  clear HN ci fi H0
  intro u1 Z
  have H1 := Lib.hid Z
  clear Z
  obtain ⟨X1, hX1⟩ : ∃ X, X = addF X0 a b := ⟨_, rfl⟩
  rw [← hX1] at H1
  go_upto_region 1 with fail
  have qi : ∀ w', Rw (u1.drewN 1) w' → w'.cell? ⟨hb, d, none⟩ = some (.int .u32 (X1.getD d 0)) := fun w' h => ((H1.out.1.drew 1).rw h).icell d (by have := H1.out.2.1; omega)
  have qj : ∀ w', Rw (u1.drewN 1) w' → w'.cell? ⟨hb, a, none⟩ = some (.int .u32 (X1.getD a 0)) := fun w' h => ((H1.out.1.drew 1).rw h).icell a (by have := H1.out.2.1; omega)
  have hF : Hid (rotF X1 d a 16 = X1.set d (rotp (bits .xor .u32 (X1.getD d 0) (X1.getD a 0)) 16)) := rfl
  generalize X1.getD d 0 = vi at *
  generalize X1.getD a 0 = vj at *
  (refine wp_region_quiet_tail (C := fun w' => Rw (u1.drewN 1) w') 16 (by kernel_rfl) (by kernel_rfl) (Rw.refl _) ?_; simp only [List.take_succ_cons, List.take_zero, List.drop_succ_cons, List.drop_zero])
  (iterate 13 ((with_reducible refine wpQuiet_step (fun K hK => ?_)); refine quiet_autoE (by first | rfl | simp [Region.wanted, yielded]) ?_; apply Exists.intro; refine ⟨fun w' hw' => ?_, ?_⟩; (focus (go_simp; (first | done | rfl | ((try go_ints); (try simp only [↓IntWalk.iteOmega]); (try go_simp); (first | done | rfl))))); go_simp; (with_reducible apply hK); clear hK K))
  ((with_reducible refine wpQuiet_step (fun K hK => ?_)); refine quiet_callE (by first | rfl | simp [Region.wanted, yielded]) ?_; apply Exists.intro; apply Exists.intro; refine ⟨fun w' => ?_, ?_⟩; (focus (go_simp; try (first | exact ⟨rfl, rfl⟩ | rfl))); apply Exists.intro; refine ⟨fun w' hw' => quiet_same hw' (rotp_ok _ 16 (by decide) (by decide) w'), ?_⟩; go_simp; (with_reducible apply hK); clear hK K)
  (repeat ((with_reducible refine wpQuiet_step (fun K hK => ?_)); refine quiet_autoE (by first | rfl | simp [Region.wanted, yielded]) ?_; apply Exists.intro; refine ⟨fun w' hw' => ?_, ?_⟩; (focus (go_simp; (first | done | rfl | ((try go_ints); (try simp only [↓IntWalk.iteOmega]); (try go_simp); (first | done | rfl))))); go_simp; (with_reducible apply hK); clear hK K))
  refine wpQuiet_nil ?_
  intro w5 hw5
  have O := (H1.out.1.drew 1).rw hw5
  have ci := O.icell d (by have := H1.out.2.1; omega)
  have fi := O.free d
  have S1 := O.iset d (rotp (bits .xor .u32 vi vj) 16)
  rw [← hF.out] at S1
  have KW : Keeps (fun k => k = hb) u0 w5 := (H1.out.2.2.drewN 1).trans (Keeps.of_below (F := fun _ => False) hw5) (fun _ _ f => f.elim)
  have HN : Hid (Blk (w5.setCell ⟨hb, d, none⟩ (.int .u32 (rotp (bits .xor .u32 vi vj) 16))) hb 150 (iv .u32 (rotF X1 d a 16)) ∧ (rotF X1 d a 16).length = 16 ∧ Keeps (fun k => k = hb) u0 (w5.setCell ⟨hb, d, none⟩ (.int .u32 (rotp (bits .xor .u32 vi vj) 16)))) :=
    Lib.hid ⟨S1, by rw [rotF_len]; exact H1.out.2.1, KW.set hb d _ (fun _ => rfl)⟩
  clear O S1 KW hw5 hF qi qj
  go_upto_region 2 with fail
  refine wp_gen (fun wx => Blk wx hb 150 (iv .u32 (rotF X1 d a 16)) ∧ (rotF X1 d a 16).length = 16 ∧ Keeps (fun k => k = hb) u0 wx) HN.out ?_
  clear HN ci fi H1
  intro u2 Z
  have H2 := Lib.hid Z
  clear Z
  obtain ⟨X2, hX2⟩ : ∃ X, X = rotF X1 d a 16 := ⟨_, rfl⟩
  rw [← hX2] at H2
  go_upto_region 2 with fail
  have qi : ∀ w', Rw (u2.drewN 1) w' → w'.cell? ⟨hb, c, none⟩ = some (.int .u32 (X2.getD c 0)) := fun w' h => ((H2.out.1.drew 1).rw h).icell c (by have := H2.out.2.1; omega)
  have qj : ∀ w', Rw (u2.drewN 1) w' → w'.cell? ⟨hb, d, none⟩ = some (.int .u32 (X2.getD d 0)) := fun w' h => ((H2.out.1.drew 1).rw h).icell d (by have := H2.out.2.1; omega)
  have hF : Hid (addF X2 c d = X2.set c (IntKind.u32.wrap (X2.getD c 0 + X2.getD d 0))) := rfl
  generalize X2.getD c 0 = vi at *
  generalize X2.getD d 0 = vj at *
  (refine wp_region_quiet_tail (C := fun w' => Rw (u2.drewN 1) w') 13 (by kernel_rfl) (by kernel_rfl) (Rw.refl _) ?_; simp only [List.take_succ_cons, List.take_zero, List.drop_succ_cons, List.drop_zero])
  (repeat ((with_reducible refine wpQuiet_step (fun K hK => ?_)); refine quiet_autoE (by first | rfl | simp [Region.wanted, yielded]) ?_; apply Exists.intro; refine ⟨fun w' hw' => ?_, ?_⟩; (focus (go_simp; (first | done | rfl | ((try go_ints); (try simp only [↓IntWalk.iteOmega]); (try go_simp); (first | done | rfl))))); go_simp; (with_reducible apply hK); clear hK K))
  refine wpQuiet_nil ?_
  intro w5 hw5
  have O := (H2.out.1.drew 1).rw hw5
  have ci := O.icell c (by have := H2.out.2.1; omega)
  have fi := O.free c
  have S1 := O.iset c (IntKind.u32.wrap (vi + vj))
  rw [← hF.out] at S1
  have KW : Keeps (fun k => k = hb) u0 w5 := (H2.out.2.2.drewN 1).trans (Keeps.of_below (F := fun _ => False) hw5) (fun _ _ f => f.elim)
  have HN : Hid (Blk (w5.setCell ⟨hb, c, none⟩ (.int .u32 (IntKind.u32.wrap (vi + vj)))) hb 150 (iv .u32 (addF X2 c d)) ∧ (addF X2 c d).length = 16 ∧ Keeps (fun k => k = hb) u0 (w5.setCell ⟨hb, c, none⟩ (.int .u32 (IntKind.u32.wrap (vi + vj))))) :=
    Lib.hid ⟨S1, by rw [addF_len]; exact H2.out.2.1, KW.set hb c _ (fun _ => rfl)⟩
  clear O S1 KW hw5 hF qi qj
  go_upto_region 3 with fail
  refine wp_gen (fun wx => Blk wx hb 150 (iv .u32 (addF X2 c d)) ∧ (addF X2 c d).length = 16 ∧ Keeps (fun k => k = hb) u0 wx) HN.out ?_
  clear HN ci fi H2
  intro u3 Z
  have H3 := Lib.hid Z
  clear Z
  obtain ⟨X3, hX3⟩ : ∃ X, X = addF X2 c d := ⟨_, rfl⟩
  rw [← hX3] at H3
  go_upto_region 3 with fail
  have qi : ∀ w', Rw (u3.drewN 1) w' → w'.cell? ⟨hb, b, none⟩ = some (.int .u32 (X3.getD b 0)) := fun w' h => ((H3.out.1.drew 1).rw h).icell b (by have := H3.out.2.1; omega)
  have qj : ∀ w', Rw (u3.drewN 1) w' → w'.cell? ⟨hb, c, none⟩ = some (.int .u32 (X3.getD c 0)) := fun w' h => ((H3.out.1.drew 1).rw h).icell c (by have := H3.out.2.1; omega)
  have hF : Hid (rotF X3 b c 12 = X3.set b (rotp (bits .xor .u32 (X3.getD b 0) (X3.getD c 0)) 12)) := rfl
  generalize X3.getD b 0 = vi at *
  generalize X3.getD c 0 = vj at *
  (refine wp_region_quiet_tail (C := fun w' => Rw (u3.drewN 1) w') 16 (by kernel_rfl) (by kernel_rfl) (Rw.refl _) ?_; simp only [List.take_succ_cons, List.take_zero, List.drop_succ_cons, List.drop_zero])
  (iterate 13 ((with_reducible refine wpQuiet_step (fun K hK => ?_)); refine quiet_autoE (by first | rfl | simp [Region.wanted, yielded]) ?_; apply Exists.intro; refine ⟨fun w' hw' => ?_, ?_⟩; (focus (go_simp; (first | done | rfl | ((try go_ints); (try simp only [↓IntWalk.iteOmega]); (try go_simp); (first | done | rfl))))); go_simp; (with_reducible apply hK); clear hK K))
  ((with_reducible refine wpQuiet_step (fun K hK => ?_)); refine quiet_callE (by first | rfl | simp [Region.wanted, yielded]) ?_; apply Exists.intro; apply Exists.intro; refine ⟨fun w' => ?_, ?_⟩; (focus (go_simp; try (first | exact ⟨rfl, rfl⟩ | rfl))); apply Exists.intro; refine ⟨fun w' hw' => quiet_same hw' (rotp_ok _ 12 (by decide) (by decide) w'), ?_⟩; go_simp; (with_reducible apply hK); clear hK K)
  (repeat ((with_reducible refine wpQuiet_step (fun K hK => ?_)); refine quiet_autoE (by first | rfl | simp [Region.wanted, yielded]) ?_; apply Exists.intro; refine ⟨fun w' hw' => ?_, ?_⟩; (focus (go_simp; (first | done | rfl | ((try go_ints); (try simp only [↓IntWalk.iteOmega]); (try go_simp); (first | done | rfl))))); go_simp; (with_reducible apply hK); clear hK K))
  refine wpQuiet_nil ?_
  intro w5 hw5
  have O := (H3.out.1.drew 1).rw hw5
  have ci := O.icell b (by have := H3.out.2.1; omega)
  have fi := O.free b
  have S1 := O.iset b (rotp (bits .xor .u32 vi vj) 12)
  rw [← hF.out] at S1
  have KW : Keeps (fun k => k = hb) u0 w5 := (H3.out.2.2.drewN 1).trans (Keeps.of_below (F := fun _ => False) hw5) (fun _ _ f => f.elim)
  have HN : Hid (Blk (w5.setCell ⟨hb, b, none⟩ (.int .u32 (rotp (bits .xor .u32 vi vj) 12))) hb 150 (iv .u32 (rotF X3 b c 12)) ∧ (rotF X3 b c 12).length = 16 ∧ Keeps (fun k => k = hb) u0 (w5.setCell ⟨hb, b, none⟩ (.int .u32 (rotp (bits .xor .u32 vi vj) 12)))) :=
    Lib.hid ⟨S1, by rw [rotF_len]; exact H3.out.2.1, KW.set hb b _ (fun _ => rfl)⟩
  clear O S1 KW hw5 hF qi qj
  go_upto_region 4 with fail
  refine wp_gen (fun wx => Blk wx hb 150 (iv .u32 (rotF X3 b c 12)) ∧ (rotF X3 b c 12).length = 16 ∧ Keeps (fun k => k = hb) u0 wx) HN.out ?_
  clear HN ci fi H3
  intro u4 Z
  have H4 := Lib.hid Z
  clear Z
  obtain ⟨X4, hX4⟩ : ∃ X, X = rotF X3 b c 12 := ⟨_, rfl⟩
  rw [← hX4] at H4
  go_upto_region 4 with fail
  have qi : ∀ w', Rw (u4.drewN 1) w' → w'.cell? ⟨hb, a, none⟩ = some (.int .u32 (X4.getD a 0)) := fun w' h => ((H4.out.1.drew 1).rw h).icell a (by have := H4.out.2.1; omega)
  have qj : ∀ w', Rw (u4.drewN 1) w' → w'.cell? ⟨hb, b, none⟩ = some (.int .u32 (X4.getD b 0)) := fun w' h => ((H4.out.1.drew 1).rw h).icell b (by have := H4.out.2.1; omega)
  have hF : Hid (addF X4 a b = X4.set a (IntKind.u32.wrap (X4.getD a 0 + X4.getD b 0))) := rfl
  generalize X4.getD a 0 = vi at *
  generalize X4.getD b 0 = vj at *
  (refine wp_region_quiet_tail (C := fun w' => Rw (u4.drewN 1) w') 13 (by kernel_rfl) (by kernel_rfl) (Rw.refl _) ?_; simp only [List.take_succ_cons, List.take_zero, List.drop_succ_cons, List.drop_zero])
  (repeat ((with_reducible refine wpQuiet_step (fun K hK => ?_)); refine quiet_autoE (by first | rfl | simp [Region.wanted, yielded]) ?_; apply Exists.intro; refine ⟨fun w' hw' => ?_, ?_⟩; (focus (go_simp; (first | done | rfl | ((try go_ints); (try simp only [↓IntWalk.iteOmega]); (try go_simp); (first | done | rfl))))); go_simp; (with_reducible apply hK); clear hK K))
  refine wpQuiet_nil ?_
  intro w5 hw5
  have O := (H4.out.1.drew 1).rw hw5
  have ci := O.icell a (by have := H4.out.2.1; omega)
  have fi := O.free a
  have S1 := O.iset a (IntKind.u32.wrap (vi + vj))
  rw [← hF.out] at S1
  have KW : Keeps (fun k => k = hb) u0 w5 := (H4.out.2.2.drewN 1).trans (Keeps.of_below (F := fun _ => False) hw5) (fun _ _ f => f.elim)
  have HN : Hid (Blk (w5.setCell ⟨hb, a, none⟩ (.int .u32 (IntKind.u32.wrap (vi + vj)))) hb 150 (iv .u32 (addF X4 a b)) ∧ (addF X4 a b).length = 16 ∧ Keeps (fun k => k = hb) u0 (w5.setCell ⟨hb, a, none⟩ (.int .u32 (IntKind.u32.wrap (vi + vj))))) :=
    Lib.hid ⟨S1, by rw [addF_len]; exact H4.out.2.1, KW.set hb a _ (fun _ => rfl)⟩
  clear O S1 KW hw5 hF qi qj
  go_upto_region 5 with fail
  refine wp_gen (fun wx => Blk wx hb 150 (iv .u32 (addF X4 a b)) ∧ (addF X4 a b).length = 16 ∧ Keeps (fun k => k = hb) u0 wx) HN.out ?_
  clear HN ci fi H4
  intro u5 Z
  have H5 := Lib.hid Z
  clear Z
  obtain ⟨X5, hX5⟩ : ∃ X, X = addF X4 a b := ⟨_, rfl⟩
  rw [← hX5] at H5
  go_upto_region 5 with fail
  have qi : ∀ w', Rw (u5.drewN 1) w' → w'.cell? ⟨hb, d, none⟩ = some (.int .u32 (X5.getD d 0)) := fun w' h => ((H5.out.1.drew 1).rw h).icell d (by have := H5.out.2.1; omega)
  have qj : ∀ w', Rw (u5.drewN 1) w' → w'.cell? ⟨hb, a, none⟩ = some (.int .u32 (X5.getD a 0)) := fun w' h => ((H5.out.1.drew 1).rw h).icell a (by have := H5.out.2.1; omega)
  have hF : Hid (rotF X5 d a 8 = X5.set d (rotp (bits .xor .u32 (X5.getD d 0) (X5.getD a 0)) 8)) := rfl
  generalize X5.getD d 0 = vi at *
  generalize X5.getD a 0 = vj at *
  (refine wp_region_quiet_tail (C := fun w' => Rw (u5.drewN 1) w') 16 (by kernel_rfl) (by kernel_rfl) (Rw.refl _) ?_; simp only [List.take_succ_cons, List.take_zero, List.drop_succ_cons, List.drop_zero])
  (iterate 13 ((with_reducible refine wpQuiet_step (fun K hK => ?_)); refine quiet_autoE (by first | rfl | simp [Region.wanted, yielded]) ?_; apply Exists.intro; refine ⟨fun w' hw' => ?_, ?_⟩; (focus (go_simp; (first | done | rfl | ((try go_ints); (try simp only [↓IntWalk.iteOmega]); (try go_simp); (first | done | rfl))))); go_simp; (with_reducible apply hK); clear hK K))
  ((with_reducible refine wpQuiet_step (fun K hK => ?_)); refine quiet_callE (by first | rfl | simp [Region.wanted, yielded]) ?_; apply Exists.intro; apply Exists.intro; refine ⟨fun w' => ?_, ?_⟩; (focus (go_simp; try (first | exact ⟨rfl, rfl⟩ | rfl))); apply Exists.intro; refine ⟨fun w' hw' => quiet_same hw' (rotp_ok _ 8 (by decide) (by decide) w'), ?_⟩; go_simp; (with_reducible apply hK); clear hK K)
  (repeat ((with_reducible refine wpQuiet_step (fun K hK => ?_)); refine quiet_autoE (by first | rfl | simp [Region.wanted, yielded]) ?_; apply Exists.intro; refine ⟨fun w' hw' => ?_, ?_⟩; (focus (go_simp; (first | done | rfl | ((try go_ints); (try simp only [↓IntWalk.iteOmega]); (try go_simp); (first | done | rfl))))); go_simp; (with_reducible apply hK); clear hK K))
  refine wpQuiet_nil ?_
  intro w5 hw5
  have O := (H5.out.1.drew 1).rw hw5
  have ci := O.icell d (by have := H5.out.2.1; omega)
  have fi := O.free d
  have S1 := O.iset d (rotp (bits .xor .u32 vi vj) 8)
  rw [← hF.out] at S1
  have KW : Keeps (fun k => k = hb) u0 w5 := (H5.out.2.2.drewN 1).trans (Keeps.of_below (F := fun _ => False) hw5) (fun _ _ f => f.elim)
  have HN : Hid (Blk (w5.setCell ⟨hb, d, none⟩ (.int .u32 (rotp (bits .xor .u32 vi vj) 8))) hb 150 (iv .u32 (rotF X5 d a 8)) ∧ (rotF X5 d a 8).length = 16 ∧ Keeps (fun k => k = hb) u0 (w5.setCell ⟨hb, d, none⟩ (.int .u32 (rotp (bits .xor .u32 vi vj) 8)))) :=
    Lib.hid ⟨S1, by rw [rotF_len]; exact H5.out.2.1, KW.set hb d _ (fun _ => rfl)⟩
  clear O S1 KW hw5 hF qi qj
  go_upto_region 6 with fail
  refine wp_gen (fun wx => Blk wx hb 150 (iv .u32 (rotF X5 d a 8)) ∧ (rotF X5 d a 8).length = 16 ∧ Keeps (fun k => k = hb) u0 wx) HN.out ?_
  clear HN ci fi H5
  intro u6 Z
  have H6 := Lib.hid Z
  clear Z
  obtain ⟨X6, hX6⟩ : ∃ X, X = rotF X5 d a 8 := ⟨_, rfl⟩
  rw [← hX6] at H6
  go_upto_region 6 with fail
  have qi : ∀ w', Rw (u6.drewN 1) w' → w'.cell? ⟨hb, c, none⟩ = some (.int .u32 (X6.getD c 0)) := fun w' h => ((H6.out.1.drew 1).rw h).icell c (by have := H6.out.2.1; omega)
  have qj : ∀ w', Rw (u6.drewN 1) w' → w'.cell? ⟨hb, d, none⟩ = some (.int .u32 (X6.getD d 0)) := fun w' h => ((H6.out.1.drew 1).rw h).icell d (by have := H6.out.2.1; omega)
  have hF : Hid (addF X6 c d = X6.set c (IntKind.u32.wrap (X6.getD c 0 + X6.getD d 0))) := rfl
  generalize X6.getD c 0 = vi at *
  generalize X6.getD d 0 = vj at *
  (refine wp_region_quiet_tail (C := fun w' => Rw (u6.drewN 1) w') 13 (by kernel_rfl) (by kernel_rfl) (Rw.refl _) ?_; simp only [List.take_succ_cons, List.take_zero, List.drop_succ_cons, List.drop_zero])
  (repeat ((with_reducible refine wpQuiet_step (fun K hK => ?_)); refine quiet_autoE (by first | rfl | simp [Region.wanted, yielded]) ?_; apply Exists.intro; refine ⟨fun w' hw' => ?_, ?_⟩; (focus (go_simp; (first | done | rfl | ((try go_ints); (try simp only [↓IntWalk.iteOmega]); (try go_simp); (first | done | rfl))))); go_simp; (with_reducible apply hK); clear hK K))
  refine wpQuiet_nil ?_
  intro w5 hw5
  have O := (H6.out.1.drew 1).rw hw5
  have ci := O.icell c (by have := H6.out.2.1; omega)
  have fi := O.free c
  have S1 := O.iset c (IntKind.u32.wrap (vi + vj))
  rw [← hF.out] at S1
  have KW : Keeps (fun k => k = hb) u0 w5 := (H6.out.2.2.drewN 1).trans (Keeps.of_below (F := fun _ => False) hw5) (fun _ _ f => f.elim)
  have HN : Hid (Blk (w5.setCell ⟨hb, c, none⟩ (.int .u32 (IntKind.u32.wrap (vi + vj)))) hb 150 (iv .u32 (addF X6 c d)) ∧ (addF X6 c d).length = 16 ∧ Keeps (fun k => k = hb) u0 (w5.setCell ⟨hb, c, none⟩ (.int .u32 (IntKind.u32.wrap (vi + vj))))) :=
    Lib.hid ⟨S1, by rw [addF_len]; exact H6.out.2.1, KW.set hb c _ (fun _ => rfl)⟩
  clear O S1 KW hw5 hF qi qj
  go_upto_region 7 with fail
  refine wp_gen (fun wx => Blk wx hb 150 (iv .u32 (addF X6 c d)) ∧ (addF X6 c d).length = 16 ∧ Keeps (fun k => k = hb) u0 wx) HN.out ?_
  clear HN ci fi H6
  intro u7 Z
  have H7 := Lib.hid Z
  clear Z
  obtain ⟨X7, hX7⟩ : ∃ X, X = addF X6 c d := ⟨_, rfl⟩
  rw [← hX7] at H7
  go_upto_region 7 with fail
  have qi : ∀ w', Rw (u7.drewN 1) w' → w'.cell? ⟨hb, b, none⟩ = some (.int .u32 (X7.getD b 0)) := fun w' h => ((H7.out.1.drew 1).rw h).icell b (by have := H7.out.2.1; omega)
  have qj : ∀ w', Rw (u7.drewN 1) w' → w'.cell? ⟨hb, c, none⟩ = some (.int .u32 (X7.getD c 0)) := fun w' h => ((H7.out.1.drew 1).rw h).icell c (by have := H7.out.2.1; omega)
  have hF : Hid (rotF X7 b c 7 = X7.set b (rotp (bits .xor .u32 (X7.getD b 0) (X7.getD c 0)) 7)) := rfl
  generalize X7.getD b 0 = vi at *
  generalize X7.getD c 0 = vj at *
  (refine wp_region_quiet_tail (C := fun w' => Rw (u7.drewN 1) w') 16 (by kernel_rfl) (by kernel_rfl) (Rw.refl _) ?_; simp only [List.take_succ_cons, List.take_zero, List.drop_succ_cons, List.drop_zero])
  (iterate 13 ((with_reducible refine wpQuiet_step (fun K hK => ?_)); refine quiet_autoE (by first | rfl | simp [Region.wanted, yielded]) ?_; apply Exists.intro; refine ⟨fun w' hw' => ?_, ?_⟩; (focus (go_simp; (first | done | rfl | ((try go_ints); (try simp only [↓IntWalk.iteOmega]); (try go_simp); (first | done | rfl))))); go_simp; (with_reducible apply hK); clear hK K))
  ((with_reducible refine wpQuiet_step (fun K hK => ?_)); refine quiet_callE (by first | rfl | simp [Region.wanted, yielded]) ?_; apply Exists.intro; apply Exists.intro; refine ⟨fun w' => ?_, ?_⟩; (focus (go_simp; try (first | exact ⟨rfl, rfl⟩ | rfl))); apply Exists.intro; refine ⟨fun w' hw' => quiet_same hw' (rotp_ok _ 7 (by decide) (by decide) w'), ?_⟩; go_simp; (with_reducible apply hK); clear hK K)
  (repeat ((with_reducible refine wpQuiet_step (fun K hK => ?_)); refine quiet_autoE (by first | rfl | simp [Region.wanted, yielded]) ?_; apply Exists.intro; refine ⟨fun w' hw' => ?_, ?_⟩; (focus (go_simp; (first | done | rfl | ((try go_ints); (try simp only [↓IntWalk.iteOmega]); (try go_simp); (first | done | rfl))))); go_simp; (with_reducible apply hK); clear hK K))
  refine wpQuiet_nil ?_
  intro w5 hw5
  have O := (H7.out.1.drew 1).rw hw5
  have ci := O.icell b (by have := H7.out.2.1; omega)
  have fi := O.free b
  have S1 := O.iset b (rotp (bits .xor .u32 vi vj) 7)
  rw [← hF.out] at S1
  have KW : Keeps (fun k => k = hb) u0 w5 := (H7.out.2.2.drewN 1).trans (Keeps.of_below (F := fun _ => False) hw5) (fun _ _ f => f.elim)
  have HN : Hid (Blk (w5.setCell ⟨hb, b, none⟩ (.int .u32 (rotp (bits .xor .u32 vi vj) 7))) hb 150 (iv .u32 (rotF X7 b c 7)) ∧ (rotF X7 b c 7).length = 16 ∧ Keeps (fun k => k = hb) u0 (w5.setCell ⟨hb, b, none⟩ (.int .u32 (rotp (bits .xor .u32 vi vj) 7)))) :=
    Lib.hid ⟨S1, by rw [rotF_len]; exact H7.out.2.1, KW.set hb b _ (fun _ => rfl)⟩
  clear O S1 KW hw5 hF qi qj
  go_wp2_with fail
  go_end0
  refine ⟨rfl, ?_, HN.out.2.2⟩
  rw [HQ.out, ← hX1, ← hX2, ← hX3, ← hX4, ← hX5, ← hX6, ← hX7]
  exact HN.out.1
end Go.Proofs.YtcbkbjpdfanjpaaGreatDoor
