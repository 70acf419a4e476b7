/-
Integers in blocks; quiet walks whose values the walk itself finds.
sha2: its small functions.
-/
import Derived.Test.YtilccncddbgpbaaDoorRows
import Derived.LoopTactic
import Derived.Deep.DeepCutAuto
import Derived.BigRegion
import Derived.Outline
import Derived.Deep.MidRow
import Derived.ChangeKeysEq
import Derived.Test.YtilccncddbgpbaaDoorPk03
import Derived.Test.YtilccncddbgpbaaDoorPk07
import Derived.Test.YtilccncddbgpbaaDoorPk08
namespace Go.Proofs.YtilccncddbgpbaaDoor
open Go.RowKit
set_option maxRecDepth 100000

theorem list_gen {P : Program} {ops : Array Oper} {l : List Oper} {Q : Exit → Act → World → Prop} {a : Act} {W : World} (R : World → Prop) (h : R W) (k : ∀ w1, R w1 → wpList P ops Q l a w1) : wpList P ops Q l a W := k W h
/-- integers of one kind as values -/
def iv (k : IntKind) (l : List Int) : List Value := l.map (Value.int k)
theorem iv_len (k : IntKind) (l : List Int) : (iv k l).length = l.length := by simp [iv]
theorem iv_get (k : IntKind) (l : List Int) (i : Nat) (h : i < l.length) : (iv k l)[i]? = some (.int k (l.getD i 0)) := by simp [iv, h]
theorem iv_one (k : IntKind) (l : List Int) : ∀ v ∈ iv k l, v.oneCell' = true := by intro y hy; obtain ⟨d, _, rfl⟩ := List.mem_map.1 hy; rfl
theorem iv_set (k : IntKind) (l : List Int) (i : Nat) (d : Int) : (iv k l).set i (.int k d) = iv k (l.set i d) := by simp [iv, List.map_set]
theorem Blk.iset {k : IntKind} {w : World} {b : Nat} {t : TypeId} {l : List Int} (h : Blk w b t (iv k l)) (i : Nat) (d : Int) : Blk (w.setCell ⟨b, i, none⟩ (.int k d)) b t (iv k (l.set i d)) := by rw [← iv_set]; exact h.set i _
theorem Blk.icell {k : IntKind} {w : World} {b : Nat} {t : TypeId} {l : List Int} (h : Blk w b t (iv k l)) (i : Nat) (hi : i < l.length) : w.cell? ⟨b, i, none⟩ = some (.int k (l.getD i 0)) := h.cell i _ (iv_get k l i hi)
theorem list8 (l : List Int) (h : l.length = 8) : ∃ a b c d e f g k, l = [a, b, c, d, e, f, g, k] := by
  match l, h with
  | [a, b, c, d, e, f, g, k], _ => exact ⟨a, b, c, d, e, f, g, k, rfl⟩
theorem set_len (l : List Int) (i : Nat) (d : Int) : (l.set i d).length = l.length := List.length_set ..

section
variable {P : Program} {ops : Array Oper} {C : World → Prop} {a : Act} {o : Oper} {K : Act → Prop}
theorem quiet_autoE (hg : Region.wanted o (yielded ops a.tmps) = true) (h : ∃ v, (∀ w, C w → (execOp a.eval o).run P w = .ok (.value v) w) ∧ K (a.put o.dst v)) :
    if Region.wanted o (yielded ops a.tmps) then o.quiet P a C K else K (a.put o.dst undef) := by
  obtain ⟨v, hv, hk⟩ := h
  exact quiet_plainG v hg hv hk
theorem quiet_callE (hg : Region.wanted o (yielded ops a.tmps) = true) (h : ∃ f args, (∀ w, (execOp a.eval o).run P w = .ok (.enter f args) w) ∧ ∃ v, (∀ w, C w → Calls P f args w fun e w' => e = .returned v ∧ C w') ∧ K (a.put o.dst v)) :
    if Region.wanted o (yielded ops a.tmps) then o.quiet P a C K else K (a.put o.dst undef) := by
  obtain ⟨f, args, hv, v, hc, hk⟩ := h
  exact quiet_callG v f args hg hv hc hk
theorem quiet_skipE (hg : Region.wanted o (yielded ops a.tmps) = false) (h : K (a.put o.dst undef)) :
    if Region.wanted o (yielded ops a.tmps) then o.quiet P a C K else K (a.put o.dst undef) := by
  rw [if_neg (by rw [hg]; decide)]
  exact h
theorem quiet_loadN {b off ty : Nat} {d : TypeDesc} {x : Operand} {cs : List Value} (hb : ∀ w, C w → w.rangeAt b off cs)
    (hu : P.underlying ty = some d) (hd : d.isRow = true) (hi : (P.info? ty).map (·.size) = some cs.length) (hg : Region.wanted o (yielded ops a.tmps) = true) (ho : o.op = .load ty x) (hx : a.eval x = .pointer (some ⟨b, off, none⟩)) (h : K (a.put o.dst (.agg cs.toArray))) :
    if Region.wanted o (yielded ops a.tmps) then o.quiet P a C K else K (a.put o.dst undef) :=
  quiet_plainG (.agg cs.toArray) hg (fun w hw => by
    unfold execOp
    simp only [ho, hx, run_loadAt_mid w b off ty cs _ (hb w hw) hu hd hi, Sem.run_bind, Sem.run_pure, Result.andThen_ok]) h
end
theorem Blk.range {w : World} {b : Nat} {t : TypeId} {xs : List Value} (h : Blk w b t xs) (k : Nat) (cs : List Value) (hc : ∀ j v, cs[j]? = some v → xs[k + j]? = some v) : w.rangeAt b k cs := fun j v hv => h.cell (k + j) v (hc j v hv)
theorem Blk.rw {w w' : World} {b : Nat} {t : TypeId} {cs : List Value} (h : Blk w b t cs) (hb : Rw w w') : Blk w' b t cs := h.below hb h.lt
theorem Rw.out {a b c : World} (h : Below a.heap.size a b) (k : Rw b c) : Below a.heap.size a c := h.trans (Below.mono k h.size)
theorem run_index_iv {P : Program} {t e : TypeId} {n : Nat} {k ke : IntKind} {l : List Int} (ht : P.underlying t = some (.array n e)) (he : P.underlying e = some (.int ke)) (hi : (P.info? e).map (·.size) = some 1) (hl : l.length = n) (q : Nat) (hq : q < n) (w : World) :
    (Instr.index t (.agg (iv k l).toArray) (.int .i64 (q : Nat))).run P w = .ok (.int k (l.getD q 0)) w := by
  have hg := iv_get k l q (by omega)
  cases hi2 : P.info? e with
  | none => rw [hi2] at hi; cases hi
  | some i =>
    rw [hi2] at hi
    have hz : i.size = 1 := by simpa using hi
    generalize iv k l = L at *
    generalize Value.int k (l.getD q 0) = v at *
    simp [Instr.index, run_underlying ht, hq, part, isAgg, run_underlying he, sizeOf, typeInfo, hi2, hz, hg, asIntOf]
theorem new_row (w : World) (t : TypeId) (z cs : List Value) : Blk ((w.alloc (.cells z.toArray t)).setRow w.heap.size cs.toArray) w.heap.size t cs ∧ Rw w ((w.alloc (.cells z.toArray t)).setRow w.heap.size cs.toArray) :=
  ⟨(Blk.new w t z).setRow cs, below_row (below1 w _) _ _ (Nat.le_refl _)⟩
/-- a contract that leaves new blocks alone is one for a quiet walk -/
theorem quiet_below {f : FuncId} {args : Array Value} {v : Value} {w0 w : World} (hw : Rw w0 w) (h : Calls Tryd.prog f args w fun e w' => e = .returned v ∧ Below w.heap.size w w') :
    Calls Tryd.prog f args w fun e w' => e = .returned v ∧ Rw w0 w' := h.mono fun _ _ ⟨he, hb⟩ => ⟨he, hw.trans hb⟩
theorem quiet_same {f : FuncId} {args : Array Value} {v : Value} {w0 w : World} (hw : Rw w0 w) (h : Calls Tryd.prog f args w fun e w' => e = .returned v ∧ w = w') :
    Calls Tryd.prog f args w fun e w' => e = .returned v ∧ Rw w0 w' := h.mono fun _ _ ⟨he, hb⟩ => ⟨he, hb ▸ hw⟩
end Go.Proofs.YtilccncddbgpbaaDoor

namespace Go.Proofs.YtilccncddbgpbaaDoor
open Go.RowKit
set_option maxRecDepth 100000
namespace Sha
def kl : Bool → List Int
  | true => [64, 80, 1, 8, 7, 19, 61, 6, 28, 34, 39, 14, 18, 41]
  | false => [32, 64, 7, 18, 3, 17, 19, 10, 2, 13, 22, 6, 11, 25]
def kw : Bool → Nat
  | true => 64
  | false => 32
def rot32 (x : Int) (n : Nat) : Int := bits .or .u32 (x * 2 ^ (32 - n) % 4294967296) (x / 2 ^ n)
def rot64 (x : Int) (n : Nat) : Int := bits .or .u64 (IntKind.u64.wrap (x * 2 ^ (64 - n))) (x / 2 ^ n)
def turnI : Bool → Int → Nat → Int
  | true, x, n => rot64 x n
  | false, x, n => IntKind.u64.wrap (rot32 (x % 4294967296) n)
def cutI (b : Bool) (x : Int) : Int := IntKind.u64.wrap (x * 2 ^ (64 - kw b)) / 2 ^ (64 - kw b)
def wordI (b : Bool) (x : Int) : Int := x / 2 ^ (64 - kw b)
def smallI (b : Bool) (x : Int) (p q r : Nat) : Int := bits .xor .u64 (bits .xor .u64 (turnI b x p) (turnI b x q)) (x / 2 ^ min r 64)
def largeI (b : Bool) (x : Int) (p q r : Nat) : Int := bits .xor .u64 (bits .xor .u64 (turnI b x p) (turnI b x q)) (turnI b x r)
end Sha
open Sha
theorem neg31 : ∀ n : Fin 32, n.val ≠ 0 → bits .and .u64 (IntKind.u64.wrap (-(n.val : Int))) 31 = ((32 - n.val : Nat) : Int) := by decide +kernel
theorem neg63 : ∀ n : Fin 64, n.val ≠ 0 → bits .and .u64 (IntKind.u64.wrap (-(n.val : Int))) 63 = ((64 - n.val : Nat) : Int) := by decide +kernel
abbrev kb (b : Bool) : List Value := iv .i64 (kl b)
theorem kind_size : (Tryd.prog.info? 41).map (·.size) = some 14 := by kernel_rfl
theorem neg_i64 (n : Nat) (h : n < 64) : IntKind.i64.wrap (-(n : Int)) = -(n : Int) := by rw [IntKind.wrap_i64]; omega
theorem kind_cell {b : Bool} {w : World} {c : Nat} (h : Blk w c 41 (kb b)) : w.cell? ⟨c, 0, none⟩ = some (.int .i64 (kw b : Nat)) := by cases b <;> exact h.cell 0 _ rfl
theorem rotl32_ok (x : Int) (n : Nat) (h0 : 0 < n) (h : n < 32) (w : World) : Calls Tryd.prog 66 #[.int .u32 x, .int .i64 (-(n : Int))] w fun e w' => e = .returned (.int .u32 (rot32 x n)) ∧ w = w' := by
  have e := neg31 ⟨n, h⟩ (by show n ≠ 0; omega)
  replace e : bits .and .u64 (IntKind.u64.wrap (-(n : Int))) 31 = ((32 - n : Nat) : Int) := e
  unfold rot32
  obtain ⟨m, hm, hm1, hm2⟩ : ∃ m : Nat, m = 32 - n ∧ 0 < m ∧ m < 32 := ⟨_, rfl, by omega, by omega⟩
  rw [← hm] at e ⊢
  have hn : (32 : Int) - (m : Int) = (n : Int) := by omega
  clear hm
  go_enter Tryd.func66, Tryd.ntmps66
  go_upto_region 2 with fail
  clear e
  go_wp2_with fail
  go_ret
  exact ⟨rfl, rfl⟩
theorem rotl64_ok (x : Int) (n : Nat) (h0 : 0 < n) (h : n < 64) (w : World) : Calls Tryd.prog 67 #[.int .u64 x, .int .i64 (-(n : Int))] w fun e w' => e = .returned (.int .u64 (rot64 x n)) ∧ w = w' := by
  have e := neg63 ⟨n, h⟩ (by show n ≠ 0; omega)
  replace e : bits .and .u64 (IntKind.u64.wrap (-(n : Int))) 63 = ((64 - n : Nat) : Int) := e
  unfold rot64
  obtain ⟨m, hm, hm1, hm2⟩ : ∃ m : Nat, m = 64 - n ∧ 0 < m ∧ m < 64 := ⟨_, rfl, by omega, by omega⟩
  rw [← hm] at e ⊢
  have hn : (64 : Int) - (m : Int) = (n : Int) := by omega
  clear hm
  go_enter Tryd.func67, Tryd.ntmps67
  go_upto_region 2 with fail
  clear e
  go_wp2_with fail
  go_ret
  exact ⟨rfl, rfl⟩
theorem turn_ok (b : Bool) (x : Int) (n : Nat) (h0 : 0 < n) (h : n < kw b) (w : World) : Calls Tryd.prog 62 #[.agg (kb b).toArray, .int .u64 x, .int .i64 n] w fun e w' => e = .returned (.int .u64 (turnI b x n)) ∧ Below w.heap.size w w' := by
  go_enter Tryd.func62, Tryd.ntmps62
  go_upto_region 1 with fail
  refine wp_gen (fun wx => Blk wx w.heap.size 41 (kb b) ∧ Below w.heap.size w wx) ⟨Blk.new w _ _, below1 _ _⟩ ?_
  rintro w1 ⟨B1, BW⟩
  have k0 := kind_cell B1
  have ng := neg_i64 n (by cases b <;> simp only [kw] at h <;> omega)
  cases b
  · have hr := rotl32_ok (x % 4294967296) n h0 h w1
    have HR := Lib.hid hr
    have k0 : w1.cell? ⟨w.heap.size, 0, none⟩ = some (.int .i64 32) := k0
    go_wp2_with (go_at_call 66; (first | rw [ng] | skip); refine HR.out.mono ?_; rintro e w' ⟨rfl, rfl⟩)
    go_ret
    exact ⟨rfl, BW⟩
  · have hr := rotl64_ok x n h0 h w1
    have HR := Lib.hid hr
    have k0 : w1.cell? ⟨w.heap.size, 0, none⟩ = some (.int .i64 64) := k0
    go_wp2_with (go_at_call 67; (first | rw [ng] | skip); refine HR.out.mono ?_; rintro e w' ⟨rfl, rfl⟩)
    go_ret
    exact ⟨rfl, BW⟩
theorem cut_ok' (b : Bool) (x : Int) (w : World) : Calls Tryd.prog 54 #[.agg (kb b).toArray, .int .u64 x] w fun e w' => e = .returned (.int .u64 (cutI b x)) ∧ Below w.heap.size w w' := by
  obtain ⟨m, hm, hm1⟩ : ∃ m : Nat, m = kw b ∧ m ≤ 64 := ⟨_, rfl, by cases b <;> decide⟩
  unfold cutI
  rw [← hm]
  go_enter Tryd.func54, Tryd.ntmps54
  go_upto_region 1 with fail
  refine wp_gen (fun wx => Blk wx w.heap.size 41 (kb b) ∧ Below w.heap.size w wx) ⟨Blk.new w _ _, below1 _ _⟩ ?_
  rintro w1 ⟨B1, BW⟩
  have k0 := kind_cell B1
  rw [← hm] at k0
  clear hm
  go_quiet (fail)
  go_wp2_with fail
  go_ret
  exact ⟨rfl, below_drewN BW _⟩
theorem word_ok' (b : Bool) (x : Int) (w : World) : Calls Tryd.prog 30 #[.agg (kb b).toArray, .int .u64 x] w fun e w' => e = .returned (.int .u64 (wordI b x)) ∧ Below w.heap.size w w' := by
  obtain ⟨m, hm, hm1⟩ : ∃ m : Nat, m = kw b ∧ m ≤ 64 := ⟨_, rfl, by cases b <;> decide⟩
  unfold wordI
  rw [← hm]
  go_enter Tryd.func30, Tryd.ntmps30
  go_upto_region 1 with fail
  refine wp_gen (fun wx => Blk wx w.heap.size 41 (kb b) ∧ Below w.heap.size w wx) ⟨Blk.new w _ _, below1 _ _⟩ ?_
  rintro w1 ⟨B1, BW⟩
  have k0 := kind_cell B1
  rw [← hm] at k0
  clear hm
  go_wp2_with fail
  go_ret
  exact ⟨rfl, BW⟩
theorem small_ok (b : Bool) (x : Int) (p q r : Nat) (hp : 0 < p) (hp2 : p < kw b) (hq : 0 < q) (hq2 : q < kw b) (w : World) :
    Calls Tryd.prog 61 #[.agg (kb b).toArray, .int .u64 x, .agg #[.int .i64 p, .int .i64 q, .int .i64 r]] w fun e w' => e = .returned (.int .u64 (smallI b x p q r)) ∧ Below w.heap.size w w' := by
  have TP := Lib.hid (fun w => turn_ok b x p hp hp2 w)
  have TQ := Lib.hid (fun w => turn_ok b x q hq hq2 w)
  clear hp hp2 hq hq2
  go_enter Tryd.func61, Tryd.ntmps61
  go_upto_region 1 with fail
  refine wp_gen (fun wx => Blk wx w.heap.size 41 (kb b) ∧ Blk wx (w.heap.size + 1) 39 [.int .i64 p, .int .i64 q, .int .i64 r] ∧ Below w.heap.size w wx) ⟨(Blk.new w _ _).alloc _, Blk.new2 _ _ _ [_, _, _], below2 _ _ _⟩ ?_
  rintro w1 ⟨B1, B2, BW⟩
  have C1 := B1.drew 1
  have C2 := B2.drew 1
  have k0 : ∀ w', Rw (w1.drewN 1) w' → w'.cell? ⟨w.heap.size + 1, 0, none⟩ = some (.int .i64 p) := fun w' h => (C2.rw h).cell 0 _ rfl
  have k1 : ∀ w', Rw (w1.drewN 1) w' → w'.cell? ⟨w.heap.size + 1, 1, none⟩ = some (.int .i64 q) := fun w' h => (C2.rw h).cell 1 _ rfl
  have k2 : ∀ w', Rw (w1.drewN 1) w' → w'.cell? ⟨w.heap.size + 1, 2, none⟩ = some (.int .i64 r) := fun w' h => (C2.rw h).cell 2 _ rfl
  have HB := Lib.hid (And.intro C1 BW)
  clear C1 C2 B1 B2 BW
  (refine region_quiet (C := fun w' => Rw (w1.drewN 1) w') (by kernel_rfl) (by kernel_rfl) (Rw.refl _) ?_)
  ((with_reducible refine wpQuiet_step (fun K hK => ?_)); refine quiet_loadB (n := 14) (fun w' hw' => HB.out.1.rw hw') Tryd.underlying41 rfl (by kernel_rfl) (by rw [iv_len]; cases b <;> rfl) (by first | rfl | simp [Region.wanted, yielded]) rfl (by go_simp) ?_; go_simp; (with_reducible apply hK); clear hK K)
  (iterate 3 ((with_reducible refine wpQuiet_step (fun K hK => ?_)); refine quiet_autoE (by first | rfl | simp [Region.wanted, yielded]) ?_; apply Exists.intro; refine ⟨fun w' hw' => ?_, ?_⟩; (focus (go_simp; (first | done | rfl | ((try go_ints); (try simp only [↓IntWalk.iteOmega, true_and]); (try go_simp); (first | done | rfl))))); go_simp; (with_reducible apply hK); clear hK K))
  ((with_reducible refine wpQuiet_step (fun K hK => ?_)); refine quiet_callE (by first | rfl | simp [Region.wanted, yielded]) ?_; apply Exists.intro; apply Exists.intro; refine ⟨fun w' => ?_, ?_⟩; (focus (go_simp; try (first | exact ⟨rfl, rfl⟩ | rfl))); apply Exists.intro; refine ⟨fun w' hw' => quiet_below hw' (TP.out w'), ?_⟩; go_simp; (with_reducible apply hK); clear hK K)
  ((with_reducible refine wpQuiet_step (fun K hK => ?_)); refine quiet_loadB (n := 14) (fun w' hw' => HB.out.1.rw hw') Tryd.underlying41 rfl (by kernel_rfl) (by rw [iv_len]; cases b <;> rfl) (by first | rfl | simp [Region.wanted, yielded]) rfl (by go_simp) ?_; go_simp; (with_reducible apply hK); clear hK K)
  (iterate 3 ((with_reducible refine wpQuiet_step (fun K hK => ?_)); refine quiet_autoE (by first | rfl | simp [Region.wanted, yielded]) ?_; apply Exists.intro; refine ⟨fun w' hw' => ?_, ?_⟩; (focus (go_simp; (first | done | rfl | ((try go_ints); (try simp only [↓IntWalk.iteOmega, true_and]); (try go_simp); (first | done | rfl))))); go_simp; (with_reducible apply hK); clear hK K))
  ((with_reducible refine wpQuiet_step (fun K hK => ?_)); refine quiet_callE (by first | rfl | simp [Region.wanted, yielded]) ?_; apply Exists.intro; apply Exists.intro; refine ⟨fun w' => ?_, ?_⟩; (focus (go_simp; try (first | exact ⟨rfl, rfl⟩ | rfl))); apply Exists.intro; refine ⟨fun w' hw' => quiet_below hw' (TQ.out w'), ?_⟩; go_simp; (with_reducible apply hK); clear hK K)
  (iterate 7 ((with_reducible refine wpQuiet_step (fun K hK => ?_)); refine quiet_autoE (by first | rfl | simp [Region.wanted, yielded]) ?_; apply Exists.intro; refine ⟨fun w' hw' => ?_, ?_⟩; (focus (go_simp; (first | done | rfl | ((try go_ints); (try simp only [↓IntWalk.iteOmega, true_and]); (try go_simp); (first | done | rfl))))); go_simp; (with_reducible apply hK); clear hK K))
  (refine wpQuiet_nil ?_; intro w5 hw5)
  go_wp2_with fail
  go_ret
  exact ⟨rfl, Rw.out (below_drewN HB.out.2 1) hw5⟩
theorem large_ok (b : Bool) (x : Int) (p q r : Nat) (hp : 0 < p) (hp2 : p < kw b) (hq : 0 < q) (hq2 : q < kw b) (hr : 0 < r) (hr2 : r < kw b) (w : World) :
    Calls Tryd.prog 53 #[.agg (kb b).toArray, .int .u64 x, .agg #[.int .i64 p, .int .i64 q, .int .i64 r]] w fun e w' => e = .returned (.int .u64 (largeI b x p q r)) ∧ Below w.heap.size w w' := by
  have TP := Lib.hid (fun w => turn_ok b x p hp hp2 w)
  have TQ := Lib.hid (fun w => turn_ok b x q hq hq2 w)
  have TR := Lib.hid (fun w => turn_ok b x r hr hr2 w)
  clear hp hp2 hq hq2 hr hr2
  go_enter Tryd.func53, Tryd.ntmps53
  go_upto_region 1 with fail
  refine wp_gen (fun wx => Blk wx w.heap.size 41 (kb b) ∧ Blk wx (w.heap.size + 1) 39 [.int .i64 p, .int .i64 q, .int .i64 r] ∧ Below w.heap.size w wx) ⟨(Blk.new w _ _).alloc _, Blk.new2 _ _ _ [_, _, _], below2 _ _ _⟩ ?_
  rintro w1 ⟨B1, B2, BW⟩
  have C1 := B1.drew 1
  have C2 := B2.drew 1
  have k0 : ∀ w', Rw (w1.drewN 1) w' → w'.cell? ⟨w.heap.size + 1, 0, none⟩ = some (.int .i64 p) := fun w' h => (C2.rw h).cell 0 _ rfl
  have k1 : ∀ w', Rw (w1.drewN 1) w' → w'.cell? ⟨w.heap.size + 1, 1, none⟩ = some (.int .i64 q) := fun w' h => (C2.rw h).cell 1 _ rfl
  have k2 : ∀ w', Rw (w1.drewN 1) w' → w'.cell? ⟨w.heap.size + 1, 2, none⟩ = some (.int .i64 r) := fun w' h => (C2.rw h).cell 2 _ rfl
  have HB := Lib.hid (And.intro C1 BW)
  clear C1 C2 B1 B2 BW
  (refine region_quiet (C := fun w' => Rw (w1.drewN 1) w') (by kernel_rfl) (by kernel_rfl) (Rw.refl _) ?_)
  ((with_reducible refine wpQuiet_step (fun K hK => ?_)); refine quiet_loadB (n := 14) (fun w' hw' => HB.out.1.rw hw') Tryd.underlying41 rfl (by kernel_rfl) (by rw [iv_len]; cases b <;> rfl) (by first | rfl | simp [Region.wanted, yielded]) rfl (by go_simp) ?_; go_simp; (with_reducible apply hK); clear hK K)
  (iterate 3 ((with_reducible refine wpQuiet_step (fun K hK => ?_)); refine quiet_autoE (by first | rfl | simp [Region.wanted, yielded]) ?_; apply Exists.intro; refine ⟨fun w' hw' => ?_, ?_⟩; (focus (go_simp; (first | done | rfl | ((try go_ints); (try simp only [↓IntWalk.iteOmega, true_and]); (try go_simp); (first | done | rfl))))); go_simp; (with_reducible apply hK); clear hK K))
  ((with_reducible refine wpQuiet_step (fun K hK => ?_)); refine quiet_callE (by first | rfl | simp [Region.wanted, yielded]) ?_; apply Exists.intro; apply Exists.intro; refine ⟨fun w' => ?_, ?_⟩; (focus (go_simp; try (first | exact ⟨rfl, rfl⟩ | rfl))); apply Exists.intro; refine ⟨fun w' hw' => quiet_below hw' (TP.out w'), ?_⟩; go_simp; (with_reducible apply hK); clear hK K)
  ((with_reducible refine wpQuiet_step (fun K hK => ?_)); refine quiet_loadB (n := 14) (fun w' hw' => HB.out.1.rw hw') Tryd.underlying41 rfl (by kernel_rfl) (by rw [iv_len]; cases b <;> rfl) (by first | rfl | simp [Region.wanted, yielded]) rfl (by go_simp) ?_; go_simp; (with_reducible apply hK); clear hK K)
  (iterate 3 ((with_reducible refine wpQuiet_step (fun K hK => ?_)); refine quiet_autoE (by first | rfl | simp [Region.wanted, yielded]) ?_; apply Exists.intro; refine ⟨fun w' hw' => ?_, ?_⟩; (focus (go_simp; (first | done | rfl | ((try go_ints); (try simp only [↓IntWalk.iteOmega, true_and]); (try go_simp); (first | done | rfl))))); go_simp; (with_reducible apply hK); clear hK K))
  ((with_reducible refine wpQuiet_step (fun K hK => ?_)); refine quiet_callE (by first | rfl | simp [Region.wanted, yielded]) ?_; apply Exists.intro; apply Exists.intro; refine ⟨fun w' => ?_, ?_⟩; (focus (go_simp; try (first | exact ⟨rfl, rfl⟩ | rfl))); apply Exists.intro; refine ⟨fun w' hw' => quiet_below hw' (TQ.out w'), ?_⟩; go_simp; (with_reducible apply hK); clear hK K)
  (iterate 1 ((with_reducible refine wpQuiet_step (fun K hK => ?_)); refine quiet_autoE (by first | rfl | simp [Region.wanted, yielded]) ?_; apply Exists.intro; refine ⟨fun w' hw' => ?_, ?_⟩; (focus (go_simp; (first | done | rfl | ((try go_ints); (try simp only [↓IntWalk.iteOmega, true_and]); (try go_simp); (first | done | rfl))))); go_simp; (with_reducible apply hK); clear hK K))
  ((with_reducible refine wpQuiet_step (fun K hK => ?_)); refine quiet_loadB (n := 14) (fun w' hw' => HB.out.1.rw hw') Tryd.underlying41 rfl (by kernel_rfl) (by rw [iv_len]; cases b <;> rfl) (by first | rfl | simp [Region.wanted, yielded]) rfl (by go_simp) ?_; go_simp; (with_reducible apply hK); clear hK K)
  (iterate 3 ((with_reducible refine wpQuiet_step (fun K hK => ?_)); refine quiet_autoE (by first | rfl | simp [Region.wanted, yielded]) ?_; apply Exists.intro; refine ⟨fun w' hw' => ?_, ?_⟩; (focus (go_simp; (first | done | rfl | ((try go_ints); (try simp only [↓IntWalk.iteOmega, true_and]); (try go_simp); (first | done | rfl))))); go_simp; (with_reducible apply hK); clear hK K))
  ((with_reducible refine wpQuiet_step (fun K hK => ?_)); refine quiet_callE (by first | rfl | simp [Region.wanted, yielded]) ?_; apply Exists.intro; apply Exists.intro; refine ⟨fun w' => ?_, ?_⟩; (focus (go_simp; try (first | exact ⟨rfl, rfl⟩ | rfl))); apply Exists.intro; refine ⟨fun w' hw' => quiet_below hw' (TR.out w'), ?_⟩; go_simp; (with_reducible apply hK); clear hK K)
  (iterate 2 ((with_reducible refine wpQuiet_step (fun K hK => ?_)); refine quiet_autoE (by first | rfl | simp [Region.wanted, yielded]) ?_; apply Exists.intro; refine ⟨fun w' hw' => ?_, ?_⟩; (focus (go_simp; (first | done | rfl | ((try go_ints); (try simp only [↓IntWalk.iteOmega, true_and]); (try go_simp); (first | done | rfl))))); go_simp; (with_reducible apply hK); clear hK K))
  (refine wpQuiet_nil ?_; intro w5 hw5)
  go_wp2_with fail
  go_ret
  exact ⟨rfl, Rw.out (below_drewN HB.out.2 1) hw5⟩
end Go.Proofs.YtilccncddbgpbaaDoor
