/-
poly: words of 64 bits; num, times, plus, add.
-/
import Derived.Shelf.Spec.BitsCarry
import Derived.Test.YtcbkbjpdfanjpaaGreatDoorPk07
namespace Go.Proofs.YtcbkbjpdfanjpaaGreatDoor
open Go.RowKit
set_option maxRecDepth 100000
def ren25p : Go.Shelf.Ren := ⟨fun | 25 => 119 | 26 => 122 | n => n, fun | 22 => 33 | n => n, fun | n => n⟩
theorem lays25p : Go.Proofs.Lays7.n25 Tryz.prog ren25p := {
  mixed := by kernel_rfl
  f25 := Tryz.func119.trans (congrArg some (by kernel_rfl))
  t22 := Tryz.underlying33
  a22 := Tryz.isAgg33
  z22 := Tryz.sizeOf33
  v22 := Tryz.zeroValue33
  i22 := by kernel_rfl }
theorem lays26 : Go.Proofs.Lays7.n26 Tryz.prog ren25p := {
  mixed := by kernel_rfl
  f26 := Tryz.func122.trans (congrArg some (by kernel_rfl))
  t22 := Tryz.underlying33
  a22 := Tryz.isAgg33
  z22 := Tryz.sizeOf33
  v22 := Tryz.zeroValue33
  i22 := by kernel_rfl }
namespace Pl
variable {P : Program} {ops : Array Oper} {w0 : World} {F : Nat → Prop} {a : Act} {o : Oper} {K : Act → Prop}
theorem plan_autoE (hg : Region.wanted o (yielded ops a.tmps) = true) (h : ∃ v, (∀ w, Keeps F w0 w → (execOp a.eval o).run P w = .ok (.value v) w) ∧ K (a.put o.dst v)) :
    if Region.wanted o (yielded ops a.tmps) then ∃ v, (∀ w, Keeps F w0 w → o.quietAt P a (Rw w) w v) ∧ K (a.put o.dst v) else K (a.put o.dst undef) := by
  obtain ⟨v, hv, hk⟩ := h
  exact plan_plain v hg hv hk
theorem plan_callE (hg : Region.wanted o (yielded ops a.tmps) = true) (h : ∃ f args, (∀ w, (execOp a.eval o).run P w = .ok (.enter f args) w) ∧ ∃ v, (∀ w, Keeps F w0 w → Calls P f args w fun e w' => e = .returned v ∧ Rw w w') ∧ K (a.put o.dst v)) :
    if Region.wanted o (yielded ops a.tmps) then ∃ v, (∀ w, Keeps F w0 w → o.quietAt P a (Rw w) w v) ∧ K (a.put o.dst v) else K (a.put o.dst undef) := by
  obtain ⟨f, args, hv, v, hc, hk⟩ := h
  exact plan_call v f args hg hv hc hk
end Pl
namespace Pol
abbrev W : Nat := 18446744073709551616
def adS (x y c : Nat) : Nat := (x + y + c) % W
def adC (x y c : Nat) : Nat := (x + y + c) / W
def sbD (x y b : Nat) : Nat := (x + W - y - b) % W
def sbB (x y b : Nat) : Nat := if x < y + b then 1 else 0
def wN (x : Int) : Nat := (IntKind.u64.wrap x).toNat
def bN (op : BinOp) (x y : Int) : Nat := (bits op .u64 x y).toNat
theorem wN_val (x : Int) : IntKind.u64.wrap x = (wN x : Int) ∧ wN x < W := by
  unfold wN
  rw [IntKind.wrap_u64]
  have h0 : 0 ≤ x % 18446744073709551616 := Int.emod_nonneg _ (by decide)
  have h1 : x % 18446744073709551616 < 18446744073709551616 := Int.emod_lt_of_pos _ (by decide)
  constructor
  · rw [Int.toNat_of_nonneg h0]
  · show _ < 18446744073709551616
    omega
theorem bN_and (x y : Int) : bits .and .u64 x y = (bN .and x y : Int) ∧ bN .and x y < W := wN_val ((BitVec.ofInt 64 x &&& BitVec.ofInt 64 y).toNat : Nat)
theorem bN_or (x y : Int) : bits .or .u64 x y = (bN .or x y : Int) ∧ bN .or x y < W := wN_val ((BitVec.ofInt 64 x ||| BitVec.ofInt 64 y).toNat : Nat)
theorem adC_le {x y c : Nat} (hx : x < W) (hy : y < W) (hc : c ≤ 1) : adC x y c ≤ 1 := by
  unfold adC
  have : x + y + c < 2 * W := by omega
  have := Nat.div_lt_of_lt_mul (show x + y + c < W * 2 by omega)
  omega
theorem adS_lt (x y c : Nat) : adS x y c < W := Nat.mod_lt _ (by decide)
theorem sbD_lt (x y c : Nat) : sbD x y c < W := Nat.mod_lt _ (by decide)
theorem sbB_le (x y c : Nat) : sbB x y c ≤ 1 := by unfold sbB; split <;> omega
end Pol
open Pol
theorem run_add64 (x y c : Nat) (hc : c ≤ 1) (w : World) : (callFunc 119 #[.int .u64 x, .int .u64 y, .int .u64 c]).run Tryz.prog w = .ok (.value (.tuple #[.int .u64 (adS x y c : Nat), .int .u64 (adC x y c : Nat)])) w := Any7.bits_Add64 lays25p x y c hc w
theorem run_add64z (x y : Nat) (w : World) : (callFunc 119 #[.int .u64 x, .int .u64 y, .int .u64 0]).run Tryz.prog w = .ok (.value (.tuple #[.int .u64 (adS x y 0 : Nat), .int .u64 (adC x y 0 : Nat)])) w := run_add64 x y 0 (by decide) w
theorem run_sub64 (x y c : Nat) (hc : c ≤ 1) (w : World) : (callFunc 122 #[.int .u64 x, .int .u64 y, .int .u64 c]).run Tryz.prog w = .ok (.value (.tuple #[.int .u64 (sbD x y c : Nat), .int .u64 (sbB x y c : Nat)])) w := Any7.bits_Sub64 lays26 x y c hc w
/-- words -/
def uv (l : List Nat) : List Value := l.map fun n => Value.int .u64 (n : Nat)
theorem uv_len (l : List Nat) : (uv l).length = l.length := by simp [uv]
theorem uv_one (l : List Nat) : ∀ v ∈ uv l, v.oneCell' = true := by intro y hy; obtain ⟨d, _, rfl⟩ := List.mem_map.1 hy; rfl
theorem wide_size : (Tryz.prog.info? 172).map (·.size) = some 2 := by kernel_rfl
namespace Pol
def numL : List UInt8 → Nat
  | [] => 0
  | b :: r => bN .or (wN (numL r * 256)) (wN (b.toNat : Nat))
theorem numL_lt (l : List UInt8) : numL l < W := by
  cases l with
  | nil => decide
  | cons b r => exact (bN_or _ _).2
end Pol
theorem num_ok (l : List UInt8) (hl : l.length ≤ 1000) (w : World) : Calls Tryz.prog 106 #[.string (by8 l)] w fun e w' => e = .returned (.int .u64 (numL l : Nat)) ∧ w = w' := by
  obtain ⟨n, hn⟩ : ∃ n, n = l.length := ⟨_, rfl⟩
  have hs : (by8 l).size = n := by rw [by8_size, hn]
  have HSI : Hid (∀ j (h : j < (by8 l).size), (((by8 l)[j]'h).toNat : Int) = ((l.getD j 0).toNat : Nat)) := Lib.hid fun j h => by rw [by_index]; rfl
  have hd0 : l.drop n = [] := by rw [hn]; exact List.drop_length
  have HN := Lib.hid (And.intro hn hd0)
  have hn1 : n ≤ 1000 := by omega
  clear hn hd0 hl
  go_enter Tryz.func106, Tryz.ntmps106
  go_wp2_with fail
  go_loop [3, 4] (fun v3 v4 => ∃ i : Nat, v3 = .int .u64 (numL (l.drop i) : Nat) ∧ v4 = .int .i64 ((i : Int) - 1) ∧ i ≤ n) (fun _ v => (intOf v + 1).toNat)
  case atStart => exact ⟨n, by rw [HN.out.2]; rfl, rfl, Nat.le_refl _⟩
  case round =>
    obtain ⟨i, rfl, rfl, hi⟩ := hrel
    rcases Nat.eq_zero_or_pos i with h0 | h0
    · subst h0
      go_wp2_with fail
      go_ret
      exact ⟨rfl, rfl⟩
    · obtain ⟨k, rfl⟩ : ∃ k, i = k + 1 := ⟨i - 1, by omega⟩
      rw [show ((k + 1 : Nat) : Int) - 1 = (k : Int) by omega]
      have hk : k < (by8 l).size := by omega
      have hby := HSI.out k hk
      have hstep : Hid (numL (l.drop k) = bN .or (wN ((numL (l.drop (k + 1)) : Nat) * 256)) (wN ((l.getD k 0).toNat : Nat))) := by
        have hkl : k < l.length := by rw [← HN.out.1]; omega
        refine Lib.hid ?_
        rw [List.drop_eq_getElem_cons hkl, List.getD_eq_getElem?_getD, List.getElem?_eq_getElem hkl]
        rfl
      generalize numL (l.drop (k + 1)) = x at *
      generalize (l.getD k 0).toNat = y at *
      have e1 := (wN_val ((x : Int) * 256)).1
      have e2 := (wN_val (y : Int)).1
      have e3 := (bN_or (wN ((x : Int) * 256)) (wN (y : Int))).1
      generalize wN ((x : Int) * 256) = x2 at *
      generalize wN (y : Int) = y2 at *
      generalize bN .or x2 y2 = z at *
      go_wp2_with fail
      go_round
      case rel => exact ⟨k, by rw [hstep.out], rfl, by omega⟩
      case measure => simp [intOf] <;> omega
theorem times_ok (x y : Nat) (hx : x < W) (hy : y < W) (w : World) : Calls Tryz.prog 120 #[.int .u64 x, .int .u64 y] w fun e w' => e = .returned (.agg (uv [x * y % W, x * y / W]).toArray) ∧ Rw w w' := by
  have hm := fun w' => sh_mul64 x y hx hy w'
  obtain ⟨lo, hlo⟩ : ∃ z, z = x * y % W := ⟨_, rfl⟩
  obtain ⟨hi, hhi⟩ : ∃ z, z = x * y / W := ⟨_, rfl⟩
  rw [← hlo, ← hhi] at hm
  rw [← hlo, ← hhi]
  have HM := Lib.hid hm
  clear hm hlo hhi
  go_enter Tryz.func120, Tryz.ntmps120
  go_upto_region 1 with fail
  refine wp_gen (fun wx => Blk wx w.heap.size 172 (uv [0, 0]) ∧ Below w.heap.size w wx) ⟨Blk.new w _ (uv [0, 0]), below1 _ _⟩ ?_
  rintro w1 ⟨B1, BW⟩
  go_wp2_with (first | (go_at_call 87; refine (HM.out _).mono ?_; rintro e w2 ⟨rfl, rfl⟩) | refine store_blk (cs := uv [lo, hi]) B1 wide_size rfl rfl (uv_one _) rfl rfl rfl rfl ?_)
  exact ret_blk rfl (B1.setRow (uv [lo, hi])) Tryz.underlying172 rfl wide_size rfl rfl rfl ⟨rfl, below_row BW _ _ (Nat.le_refl _)⟩
theorem plus_ok (a b c d : Nat) (ha : a < W) (_hb : b < W) (hc : c < W) (_hd : d < W) (w : World) : Calls Tryz.prog 121 #[.agg (uv [a, b]).toArray, .agg (uv [c, d]).toArray] w fun e w' => e = .returned (.agg (uv [adS a c 0, adS b d (adC a c 0)]).toArray) ∧ Rw w w' := by
  have h1 := run_add64z a c
  have h2 := run_add64 b d (adC a c 0) (adC_le ha hc (by decide))
  generalize adS a c 0 = s1 at *
  generalize adC a c 0 = c1 at *
  generalize adS b d c1 = s2 at *
  go_enter Tryz.func121, Tryz.ntmps121
  go_upto_region 1 with fail
  refine wp_gen (fun wx => Blk wx w.heap.size 172 (uv [a, b]) ∧ Blk wx (w.heap.size + 1) 172 (uv [c, d]) ∧ Blk wx (w.heap.size + 2) 172 (uv [0, 0]) ∧ Below w.heap.size w wx) ⟨((Blk.new w _ (uv [a, b])).alloc _).alloc _, (Blk.new2 _ _ _ (uv [c, d])).alloc _, Blk.new3 _ _ _ _ (uv [0, 0]), below3 _ _ _ _⟩ ?_
  rintro w1 ⟨B1, B2, B3, BW⟩
  have c1' := B1.cell 0 _ rfl
  have c2' := B1.cell 1 _ rfl
  have c3' := B2.cell 0 _ rfl
  have c4' := B2.cell 1 _ rfl
  go_wp2_with (refine store_blk (cs := uv [s1, s2]) B3 wide_size rfl rfl (uv_one _) rfl rfl rfl rfl ?_)
  exact ret_blk rfl (B3.setRow (uv [s1, s2])) Tryz.underlying172 rfl wide_size rfl rfl rfl ⟨rfl, below_row BW _ _ (by omega)⟩
namespace Pol
/-- what 'add' makes of a's three words -/
def ad0 (a0 lo : Nat) : Nat := adS a0 lo 0
def ad1 (a0 a1 lo hi : Nat) : Nat := adS a1 hi (adC a0 lo 0)
def ad2 (a0 a1 a2 lo hi top : Nat) : Nat := wN ((a2 : Int) + ((wN ((top : Int) + (adC a1 hi (adC a0 lo 0) : Nat)) : Nat) : Int))
theorem ad2_lt (a0 a1 a2 lo hi top : Nat) : ad2 a0 a1 a2 lo hi top < W := (wN_val _).2
end Pol
theorem sum_size : (Tryz.prog.info? 161).map (·.size) = some 5 := by kernel_rfl
set_option maxHeartbeats 4000000 in
theorem padd_ok (hb a0 a1 a2 r0 r1 lo hi top : Nat) (h0 : a0 < W) (_h1 : a1 < W) (hlo : lo < W) (_hhi : hi < W) (w : World) (hB : Blk w hb 161 (uv [a0, a1, a2, r0, r1])) :
    Calls Tryz.prog 107 #[.pointer (some ⟨hb, 0, none⟩), .int .u64 lo, .int .u64 hi, .int .u64 top] w fun e w' => e = .returned (.tuple #[]) ∧ Blk w' hb 161 (uv [ad0 a0 lo, ad1 a0 a1 lo hi, ad2 a0 a1 a2 lo hi top, r0, r1]) ∧ Keeps (fun k => k = hb) w w' := by
  have e1 := run_add64z a0 lo
  have hc1 : adC a0 lo 0 ≤ 1 := adC_le h0 hlo (by decide)
  have e2 := run_add64 a1 hi (adC a0 lo 0) hc1
  have e3 := (wN_val ((top : Int) + (adC a1 hi (adC a0 lo 0) : Nat))).1
  have e4 := (wN_val ((a2 : Int) + ((wN ((top : Int) + (adC a1 hi (adC a0 lo 0) : Nat)) : Nat) : Int))).1
  unfold ad0 ad1 ad2
  generalize adS a0 lo 0 = s0 at *
  generalize adC a0 lo 0 = c0 at *
  generalize adS a1 hi c0 = s1 at *
  generalize adC a1 hi c0 = c1 at *
  generalize wN ((top : Int) + (c1 : Nat)) = t2 at *
  generalize wN ((a2 : Int) + (t2 : Int)) = s2 at *
  have H0 := Lib.hid hB
  clear hB h0 _h1 hlo _hhi hc1
  go_enter Tryz.func107, Tryz.ntmps107
  go_upto_region 1 with fail
  (refine Pl.wp_region_plan (fun k => k = hb) [(true, 0), (true, 1), (true, 2), (true, 3), (true, 4), (true, 6), (true, 11), (true, 12), (false, 5), (true, 7), (true, 8), (true, 9), (true, 10), (true, 13), (false, 14), (false, 15)] (by kernel_rfl) (by kernel_rfl) ?_)
  ((refine Pl.plan_head (i := 0) rfl (fun K hK => ?_); refine Pl.plan_autoE (by first | rfl | simp [Region.wanted, yielded]) ?_; apply Exists.intro; refine ⟨fun w' hw' => ?_, ?_⟩; (focus (go_simp; (first | done | rfl | ((try go_ints); (try simp only [↓IntWalk.iteOmega, true_and]); (try go_simp); (first | done | rfl))))); go_simp; (with_reducible apply hK); clear hK K); (refine Pl.plan_head (i := 1) rfl (fun K hK => ?_); refine Pl.plan_autoE (by first | rfl | simp [Region.wanted, yielded]) ?_; apply Exists.intro; refine ⟨fun w' hw' => ?_, ?_⟩; (focus (go_simp; (first | done | rfl | ((try go_ints); (try simp only [↓IntWalk.iteOmega, true_and]); (try go_simp); (first | done | rfl))))); go_simp; (with_reducible apply hK); clear hK K); (refine Pl.plan_head (i := 2) rfl (fun K hK => ?_); refine Pl.plan_autoE (by first | rfl | simp [Region.wanted, yielded]) ?_; apply Exists.intro; refine ⟨fun w' hw' => ?_, ?_⟩; (focus (go_simp; (first | done | rfl | ((try go_ints); (try simp only [↓IntWalk.iteOmega, true_and]); (try go_simp); (first | done | rfl))))); go_simp; (with_reducible apply hK); clear hK K); (refine Pl.plan_head (i := 3) rfl (fun K hK => ?_); refine Pl.plan_autoE (by first | rfl | simp [Region.wanted, yielded]) ?_; apply Exists.intro; refine ⟨fun w' hw' => ?_, ?_⟩; (focus (go_simp; (first | done | rfl | ((try go_ints); (try simp only [↓IntWalk.iteOmega, true_and]); (try go_simp); (first | done | rfl))))); go_simp; (with_reducible apply hK); clear hK K); (refine Pl.plan_head (i := 4) rfl (fun K hK => ?_); refine Pl.plan_autoE (by first | rfl | simp [Region.wanted, yielded]) ?_; apply Exists.intro; refine ⟨fun w' hw' => ?_, ?_⟩; (focus (go_simp; (first | done | rfl | ((try go_ints); (try simp only [↓IntWalk.iteOmega, true_and]); (try go_simp); (first | done | rfl))))); go_simp; (with_reducible apply hK); clear hK K); (refine Pl.plan_head (i := 6) rfl (fun K hK => ?_); refine Pl.plan_autoE (by first | rfl | simp [Region.wanted, yielded]) ?_; apply Exists.intro; refine ⟨fun w' hw' => ?_, ?_⟩; (focus (go_simp; (first | done | rfl | ((try go_ints); (try simp only [↓IntWalk.iteOmega, true_and]); (try go_simp); (first | done | rfl))))); go_simp; (with_reducible apply hK); clear hK K); (refine Pl.plan_head (i := 11) rfl (fun K hK => ?_); refine Pl.plan_autoE (by first | rfl | simp [Region.wanted, yielded]) ?_; apply Exists.intro; refine ⟨fun w' hw' => ?_, ?_⟩; (focus (go_simp; (first | done | rfl | ((try go_ints); (try simp only [↓IntWalk.iteOmega, true_and]); (try go_simp); (first | done | rfl))))); go_simp; (with_reducible apply hK); clear hK K); (refine Pl.plan_head (i := 12) rfl (fun K hK => ?_); refine Pl.plan_autoE (by first | rfl | simp [Region.wanted, yielded]) ?_; apply Exists.intro; refine ⟨fun w' hw' => ?_, ?_⟩; (focus (go_simp; (first | done | rfl | ((try go_ints); (try simp only [↓IntWalk.iteOmega, true_and]); (try go_simp); (first | done | rfl))))); go_simp; (with_reducible apply hK); clear hK K))
  refine Pl.plan_sole (i := 5) rfl (fun w1 h1 Q hQ => ?_)
  have R1 : Rw w w1 := Rw.trans (below_drewN (Below.refl _ _) 1) h1
  have O1 := H0.out.rw R1
  have k0 := O1.cell 0 _ rfl
  go_wp2_with fail
  refine hQ _ _ (Keeps.of_below h1) ?_
  clear hQ
  ((refine Pl.plan_head (i := 7) rfl (fun K hK => ?_); refine Pl.plan_autoE (by first | rfl | simp [Region.wanted, yielded]) ?_; apply Exists.intro; refine ⟨fun w' hw' => ?_, ?_⟩; (focus (go_simp; (first | done | rfl | ((try go_ints); (try simp only [↓IntWalk.iteOmega, true_and]); (try go_simp); (first | done | rfl))))); go_simp; (with_reducible apply hK); clear hK K); (refine Pl.plan_head (i := 8) rfl (fun K hK => ?_); refine Pl.plan_autoE (by first | rfl | simp [Region.wanted, yielded]) ?_; apply Exists.intro; refine ⟨fun w' hw' => ?_, ?_⟩; (focus (go_simp; (first | done | rfl | ((try go_ints); (try simp only [↓IntWalk.iteOmega, true_and]); (try go_simp); (first | done | rfl))))); go_simp; (with_reducible apply hK); clear hK K); (refine Pl.plan_head (i := 9) rfl (fun K hK => ?_); refine Pl.plan_autoE (by first | rfl | simp [Region.wanted, yielded]) ?_; apply Exists.intro; refine ⟨fun w' hw' => ?_, ?_⟩; (focus (go_simp; (first | done | rfl | ((try go_ints); (try simp only [↓IntWalk.iteOmega, true_and]); (try go_simp); (first | done | rfl))))); go_simp; (with_reducible apply hK); clear hK K); (refine Pl.plan_head (i := 10) rfl (fun K hK => ?_); refine Pl.plan_autoE (by first | rfl | simp [Region.wanted, yielded]) ?_; apply Exists.intro; refine ⟨fun w' hw' => ?_, ?_⟩; (focus (go_simp; (first | done | rfl | ((try go_ints); (try simp only [↓IntWalk.iteOmega, true_and]); (try go_simp); (first | done | rfl))))); go_simp; (with_reducible apply hK); clear hK K); (refine Pl.plan_head (i := 13) rfl (fun K hK => ?_); refine Pl.plan_autoE (by first | rfl | simp [Region.wanted, yielded]) ?_; apply Exists.intro; refine ⟨fun w' hw' => ?_, ?_⟩; (focus (go_simp; (first | done | rfl | ((try go_ints); (try simp only [↓IntWalk.iteOmega, true_and]); (try go_simp); (first | done | rfl))))); go_simp; (with_reducible apply hK); clear hK K))
  refine Pl.plan_sole (i := 14) rfl (fun w2 h2 Q hQ => ?_)
  have O2 := O1.rw h2
  have ch := O2.cell 0 _ rfl
  have fh := O2.free 0
  go_wp2_with fail
  have KB : Keeps (fun k => k = hb) w.drew w2 := (Keeps.of_below (F := fun k => k = hb) h1).trans (Keeps.of_below (F := fun k => k = hb) h2) (fun _ _ h => h)
  refine hQ _ _ (KB.set hb 0 _ (fun _ => rfl)) ?_
  have S2 := O2.set 0 (.int .u64 (s0 : Nat))
  have K2 : Keeps (fun k => k = hb) w (w2.setCell ⟨hb, 0, none⟩ (.int .u64 (s0 : Nat))) := (Keeps.of_below (F := fun k => k = hb) (R1.trans h2)).set hb 0 _ (fun _ => rfl)
  have H2 := Lib.hid (And.intro S2 (And.intro K2 (KB.set hb 0 (.int .u64 (s0 : Nat)) (fun _ => rfl))))
  clear hQ KB S2 K2 ch fh O2 k0 O1 R1 h1 h2
  generalize w2.setCell _ _ = w3 at *
  refine Pl.plan_sole (i := 15) rfl (fun w4 h4 Q hQ => ?_)
  go_wp2_with fail
  refine hQ _ _ (H2.out.2.2.trans (Keeps.of_below (F := fun k => k = hb) h4) (fun _ _ h => h)) ?_
  clear hQ
  refine Pl.plan_nil (fun w5 h5 => ?_)
  have R5 : Rw w3 w5 := Rw.trans h4 h5
  have H5 : Hid (Blk w5 hb 161 (uv [s0, a1, a2, r0, r1]) ∧ Keeps (fun k => k = hb) w w5) := Lib.hid ⟨H2.out.1.rw R5, H2.out.2.1.trans (Keeps.of_below (F := fun k => k = hb) R5) (fun _ _ h => h)⟩
  clear R5 h5 h4 H2
  go_upto_region 2 with fail
  (refine Pl.wp_region_plan (fun k => k = hb) [(true, 0), (true, 1), (true, 2), (true, 3), (true, 4), (true, 6), (true, 7), (true, 12), (true, 13), (false, 5), (true, 8), (true, 9), (true, 10), (true, 11), (true, 14), (false, 15), (false, 16)] (by kernel_rfl) (by kernel_rfl) ?_)
  ((refine Pl.plan_head (i := 0) rfl (fun K hK => ?_); refine Pl.plan_autoE (by first | rfl | simp [Region.wanted, yielded]) ?_; apply Exists.intro; refine ⟨fun w' hw' => ?_, ?_⟩; (focus (go_simp; (first | done | rfl | ((try go_ints); (try simp only [↓IntWalk.iteOmega, true_and]); (try go_simp); (first | done | rfl))))); go_simp; (with_reducible apply hK); clear hK K); (refine Pl.plan_head (i := 1) rfl (fun K hK => ?_); refine Pl.plan_autoE (by first | rfl | simp [Region.wanted, yielded]) ?_; apply Exists.intro; refine ⟨fun w' hw' => ?_, ?_⟩; (focus (go_simp; (first | done | rfl | ((try go_ints); (try simp only [↓IntWalk.iteOmega, true_and]); (try go_simp); (first | done | rfl))))); go_simp; (with_reducible apply hK); clear hK K); (refine Pl.plan_head (i := 2) rfl (fun K hK => ?_); refine Pl.plan_autoE (by first | rfl | simp [Region.wanted, yielded]) ?_; apply Exists.intro; refine ⟨fun w' hw' => ?_, ?_⟩; (focus (go_simp; (first | done | rfl | ((try go_ints); (try simp only [↓IntWalk.iteOmega, true_and]); (try go_simp); (first | done | rfl))))); go_simp; (with_reducible apply hK); clear hK K); (refine Pl.plan_head (i := 3) rfl (fun K hK => ?_); refine Pl.plan_autoE (by first | rfl | simp [Region.wanted, yielded]) ?_; apply Exists.intro; refine ⟨fun w' hw' => ?_, ?_⟩; (focus (go_simp; (first | done | rfl | ((try go_ints); (try simp only [↓IntWalk.iteOmega, true_and]); (try go_simp); (first | done | rfl))))); go_simp; (with_reducible apply hK); clear hK K); (refine Pl.plan_head (i := 4) rfl (fun K hK => ?_); refine Pl.plan_autoE (by first | rfl | simp [Region.wanted, yielded]) ?_; apply Exists.intro; refine ⟨fun w' hw' => ?_, ?_⟩; (focus (go_simp; (first | done | rfl | ((try go_ints); (try simp only [↓IntWalk.iteOmega, true_and]); (try go_simp); (first | done | rfl))))); go_simp; (with_reducible apply hK); clear hK K); (refine Pl.plan_head (i := 6) rfl (fun K hK => ?_); refine Pl.plan_autoE (by first | rfl | simp [Region.wanted, yielded]) ?_; apply Exists.intro; refine ⟨fun w' hw' => ?_, ?_⟩; (focus (go_simp; (first | done | rfl | ((try go_ints); (try simp only [↓IntWalk.iteOmega, true_and]); (try go_simp); (first | done | rfl))))); go_simp; (with_reducible apply hK); clear hK K); (refine Pl.plan_head (i := 7) rfl (fun K hK => ?_); refine Pl.plan_autoE (by first | rfl | simp [Region.wanted, yielded]) ?_; apply Exists.intro; refine ⟨fun w' hw' => ?_, ?_⟩; (focus (go_simp; (first | done | rfl | ((try go_ints); (try simp only [↓IntWalk.iteOmega, true_and]); (try go_simp); (first | done | rfl))))); go_simp; (with_reducible apply hK); clear hK K); (refine Pl.plan_head (i := 12) rfl (fun K hK => ?_); refine Pl.plan_autoE (by first | rfl | simp [Region.wanted, yielded]) ?_; apply Exists.intro; refine ⟨fun w' hw' => ?_, ?_⟩; (focus (go_simp; (first | done | rfl | ((try go_ints); (try simp only [↓IntWalk.iteOmega, true_and]); (try go_simp); (first | done | rfl))))); go_simp; (with_reducible apply hK); clear hK K); (refine Pl.plan_head (i := 13) rfl (fun K hK => ?_); refine Pl.plan_autoE (by first | rfl | simp [Region.wanted, yielded]) ?_; apply Exists.intro; refine ⟨fun w' hw' => ?_, ?_⟩; (focus (go_simp; (first | done | rfl | ((try go_ints); (try simp only [↓IntWalk.iteOmega, true_and]); (try go_simp); (first | done | rfl))))); go_simp; (with_reducible apply hK); clear hK K))
  refine Pl.plan_sole (i := 5) rfl (fun w6 h6 Q hQ => ?_)
  have R6 : Rw w5 w6 := Rw.trans (below_drewN (Below.refl _ _) 1) h6
  have O6 := H5.out.1.rw R6
  have k6 := O6.cell 1 _ rfl
  go_wp2_with fail
  refine hQ _ _ (Keeps.of_below h6) ?_
  clear hQ
  ((refine Pl.plan_head (i := 8) rfl (fun K hK => ?_); refine Pl.plan_autoE (by first | rfl | simp [Region.wanted, yielded]) ?_; apply Exists.intro; refine ⟨fun w' hw' => ?_, ?_⟩; (focus (go_simp; (first | done | rfl | ((try go_ints); (try simp only [↓IntWalk.iteOmega, true_and]); (try go_simp); (first | done | rfl))))); go_simp; (with_reducible apply hK); clear hK K); (refine Pl.plan_head (i := 9) rfl (fun K hK => ?_); refine Pl.plan_autoE (by first | rfl | simp [Region.wanted, yielded]) ?_; apply Exists.intro; refine ⟨fun w' hw' => ?_, ?_⟩; (focus (go_simp; (first | done | rfl | ((try go_ints); (try simp only [↓IntWalk.iteOmega, true_and]); (try go_simp); (first | done | rfl))))); go_simp; (with_reducible apply hK); clear hK K); (refine Pl.plan_head (i := 10) rfl (fun K hK => ?_); refine Pl.plan_autoE (by first | rfl | simp [Region.wanted, yielded]) ?_; apply Exists.intro; refine ⟨fun w' hw' => ?_, ?_⟩; (focus (go_simp; (first | done | rfl | ((try go_ints); (try simp only [↓IntWalk.iteOmega, true_and]); (try go_simp); (first | done | rfl))))); go_simp; (with_reducible apply hK); clear hK K); (refine Pl.plan_head (i := 11) rfl (fun K hK => ?_); refine Pl.plan_autoE (by first | rfl | simp [Region.wanted, yielded]) ?_; apply Exists.intro; refine ⟨fun w' hw' => ?_, ?_⟩; (focus (go_simp; (first | done | rfl | ((try go_ints); (try simp only [↓IntWalk.iteOmega, true_and]); (try go_simp); (first | done | rfl))))); go_simp; (with_reducible apply hK); clear hK K); (refine Pl.plan_head (i := 14) rfl (fun K hK => ?_); refine Pl.plan_autoE (by first | rfl | simp [Region.wanted, yielded]) ?_; apply Exists.intro; refine ⟨fun w' hw' => ?_, ?_⟩; (focus (go_simp; (first | done | rfl | ((try go_ints); (try simp only [↓IntWalk.iteOmega, true_and]); (try go_simp); (first | done | rfl))))); go_simp; (with_reducible apply hK); clear hK K))
  refine Pl.plan_sole (i := 15) rfl (fun w7 h7 Q hQ => ?_)
  have O7 := O6.rw h7
  have ch := O7.cell 1 _ rfl
  have fh := O7.free 1
  go_wp2_with fail
  have KB : Keeps (fun k => k = hb) w5.drew w7 := (Keeps.of_below (F := fun k => k = hb) h6).trans (Keeps.of_below (F := fun k => k = hb) h7) (fun _ _ h => h)
  refine hQ _ _ (KB.set hb 1 _ (fun _ => rfl)) ?_
  have S7 := O7.set 1 (.int .u64 (s1 : Nat))
  have K7 : Keeps (fun k => k = hb) w (w7.setCell ⟨hb, 1, none⟩ (.int .u64 (s1 : Nat))) := (H5.out.2.trans (Keeps.of_below (F := fun k => k = hb) (R6.trans h7)) (fun _ _ h => h)).set hb 1 _ (fun _ => rfl)
  have H7 := Lib.hid (And.intro S7 (And.intro K7 (KB.set hb 1 (.int .u64 (s1 : Nat)) (fun _ => rfl))))
  clear hQ KB S7 K7 ch fh O7 k6 O6 R6 h6 h7 H5
  generalize w7.setCell _ _ = w8 at *
  refine Pl.plan_sole (i := 16) rfl (fun w9 h9 Q hQ => ?_)
  go_wp2_with fail
  refine hQ _ _ (H7.out.2.2.trans (Keeps.of_below (F := fun k => k = hb) h9) (fun _ _ h => h)) ?_
  clear hQ
  refine Pl.plan_nil (fun w10 h10 => ?_)
  have R10 : Rw w8 w10 := Rw.trans h9 h10
  have H10 : Hid (Blk w10 hb 161 (uv [s0, s1, a2, r0, r1]) ∧ Keeps (fun k => k = hb) w w10) := Lib.hid ⟨H7.out.1.rw R10, H7.out.2.1.trans (Keeps.of_below (F := fun k => k = hb) R10) (fun _ _ h => h)⟩
  clear R10 h10 h9 H7
  go_upto_region 3 with fail
  have q2 : ∀ w', Rw (w10.drewN 1) w' → w'.cell? ⟨hb, 2, none⟩ = some (.int .u64 (a2 : Nat)) := fun w' h => ((H10.out.1.drew 1).rw h).cell 2 _ rfl
  (refine wp_region_quiet_tail (C := fun w' => Rw (w10.drewN 1) w') 12 (by kernel_rfl) (by kernel_rfl) (Rw.refl _) ?_; simp only [List.take_succ_cons, List.take_zero, List.drop_succ_cons, List.drop_zero])
  (repeat ((with_reducible refine wpQuiet_step (fun K hK => ?_)); refine quiet_autoE (by first | rfl | simp [Region.wanted, yielded]) ?_; apply Exists.intro; refine ⟨fun w' hw' => ?_, ?_⟩; (focus (go_simp; (first | done | rfl | ((try go_ints); (try simp only [↓IntWalk.iteOmega, true_and]); (try go_simp); (first | done | rfl))))); go_simp; (with_reducible apply hK); clear hK K))
  refine wpQuiet_nil ?_
  intro w11 h11
  have R11 : Rw w10 w11 := Rw.trans (below_drewN (Below.refl _ _) 1) h11
  have O11 := H10.out.1.rw R11
  have ch := O11.cell 2 _ rfl
  have fh := O11.free 2
  have S11 := O11.set 2 (.int .u64 (s2 : Nat))
  have K11 := (H10.out.2.trans (Keeps.of_below (F := fun k => k = hb) R11) (fun _ _ h => h)).set hb 2 (.int .u64 (s2 : Nat)) (fun _ => rfl)
  have HS := Lib.hid (And.intro S11 K11)
  clear S11 K11 O11 R11 h11 H10 q2
  go_wp2_with fail
  go_end0
  exact ⟨rfl, HS.out.1, HS.out.2⟩
end Go.Proofs.YtcbkbjpdfanjpaaGreatDoor
