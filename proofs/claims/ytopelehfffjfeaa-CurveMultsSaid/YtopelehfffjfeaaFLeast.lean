/-
The field's least number, and what is asked of it: Odd, Zero, Same; Choose, Small.
-/
import Derived.Test.YtopelehfffjfeaaFEq
import Derived.Deep.DeepCutAuto
namespace Go.Proofs.Ytopelehfffjfeaa
open Go.RowKit

theorem arr5_size : (Try.prog.info? 27).map (·.size) = some 5 := by kernel_rfl
theorem load_el {ops : Array Oper} {rest : List Oper} {o : Oper} {a : Act} {w : World} {Q : Exit → Act → World → Prop} {b : Nat} {x : Operand} {l : List Nat} {t : TypeId} (hb : Hid (Blk w b t (uvals l))) (hl : Hid (l.length = 5))
    (hgd : o.guard = none) (ho : o.op = .load 29 x) (hx : a.eval x = .pointer (some ⟨b, 0, none⟩)) (h : wpList Try.prog ops Q rest (a.put o.dst (.agg (uvals l).toArray)) w) : wpList Try.prog ops Q (o :: rest) a w :=
  load_blk hb.out Try.underlying29 rfl elem_size (len5 hl.out) hgd ho hx h
theorem load_arr {ops : Array Oper} {rest : List Oper} {o : Oper} {a : Act} {w : World} {Q : Exit → Act → World → Prop} {b : Nat} {x : Operand} {l : List Nat} {t : TypeId} (hb : Hid (Blk w b t (uvals l))) (hl : Hid (l.length = 5))
    (hgd : o.guard = none) (ho : o.op = .load 27 x) (hx : a.eval x = .pointer (some ⟨b, 0, none⟩)) (h : wpList Try.prog ops Q rest (a.put o.dst (.agg (uvals l).toArray)) w) : wpList Try.prog ops Q (o :: rest) a w :=
  load_blk hb.out Try.underlying27 rfl arr5_size (len5 hl.out) hgd ho hx h
theorem store_el {ops : Array Oper} {rest : List Oper} {o : Oper} {a : Act} {w : World} {Q : Exit → Act → World → Prop} {b : Nat} {x y : Operand} {old l : List Nat} {t : TypeId} (hb : Hid (Blk w b t (uvals old))) (hold : Hid (old.length = 5)) (hl : Hid (l.length = 5))
    (hgd : o.guard = none) (ho : o.op = .store 29 x y) (hx : a.eval x = .pointer (some ⟨b, 0, none⟩)) (hy : a.eval y = .agg (uvals l).toArray)
    (h : wpList Try.prog ops Q rest (a.put o.dst undef) (w.setRow b (uvals l).toArray)) : wpList Try.prog ops Q (o :: rest) a w :=
  store_blk hb.out elem_size (len5 hl.out) (len5 hold.out) (uvals_one _) hgd ho hx hy h
theorem ret_el {fn : Func} {R : Ending → World → Prop} {a : Act} {w : World} {p : Tmp} {b : Nat} {t : TypeId} {l : List Nat} (h : fn.results = #[.cell p 29]) (hb : Blk w b t (uvals l)) (hl : l.length = 5)
    (hp : a.tmps.getD p undef = .pointer (some ⟨b, 0, none⟩)) (hd : a.defers = []) (hR : R (.returned (ev l)) w) : bodyPost Try.prog fn R .ret a w :=
  ret_blk h hb Try.underlying29 rfl elem_size (len5 hl) hp hd hR
theorem wp_gen {P : Program} {c : Code} {Q : Exit → Act → World → Prop} {a : Act} {W : World} (R : World → Prop) (h : R W) (k : ∀ w1, R w1 → Code.wp P c Q a w1) : Code.wp P c Q a W := k W h
theorem hz5 : Hid (zero5.length = 5) := rfl
set_option maxHeartbeats 2000000 in
theorem el_least_ok (a : List Nat) (w : World) (hl : a.length = 5) (ha : ∀ d ∈ a, d < 2 ^ 52) :
    Calls Try.prog 47 #[ev a] w fun e w' => e = .returned (ev (leastN a)) ∧ Below w.heap.size w w' := by
  have HL := Lib.hid hl
  have HA := Lib.hid ha
  have L1 : Hid ((carryN a).length = 5) := carryN_len a hl
  have L2 : Hid ((carryN (carryN a)).length = 5) := carryN_len _ L1.out
  have H63 : Hid (∀ d ∈ carryN a, d < 2 ^ 63) := fun d hd => by have := carryN_52 a hl (fun d hd => by have := ha d hd; omega) d hd; omega
  have TWO := Lib.hid (carryN_two a hl ha)
  have HLS : Hid (leastN a = crl 0 ((carryN (carryN a)).set 0 ((carryN (carryN a)).getD 0 0 + cst 19 (carryN (carryN a)) 5 * 19)) 5) := rfl
  obtain ⟨s, hs⟩ : ∃ s, s = carryN (carryN a) := ⟨_, rfl⟩
  rw [← hs] at L2 TWO HLS
  have HS := Lib.hid hs
  clear hl ha hs
  show Calls _ _ #[.agg (uvals a).toArray] _ _
  go_enter Try.func47, Try.ntmps47
  go_upto_region 1 with fail
  refine wp_gen (fun w0 => Hid (Blk w0 w.heap.size 29 (uvals a)) ∧ Hid (Blk w0 (w.heap.size + 1) 29 (uvals zero5)) ∧ Below w.heap.size w w0) ⟨(Blk.new w _ (uvals a)).alloc _, Blk.new2 _ _ _ (uvals zero5), below2 _ _ _⟩ ?_
  rintro w0 ⟨B0, Z0, BB⟩
  go_wp2_with (refine load_el B0 HL rfl rfl rfl ?_)
  refine (el_carry_ok a w0 HL.out (fun d hd => by have := HA.out d hd; omega)).mono ?_
  rintro e w1 ⟨rfl, b1⟩
  unfold ev
  go_wp2_with fail
  refine (el_carry_ok (carryN a) w1 L1.out H63.out).mono ?_
  rintro e w2 ⟨rfl, b2⟩
  rw [← HS.out]
  unfold ev
  have B2 := Lib.hid ((B0.out.below b1 B0.out.lt).below b2 (Nat.lt_of_lt_of_le B0.out.lt b1.size))
  have Z2 := Lib.hid ((Z0.out.below b1 Z0.out.lt).below b2 (Nat.lt_of_lt_of_le Z0.out.lt b1.size))
  have BB2 := (BB.trans (b1.mono BB.size)).trans (b2.mono (Nat.le_trans BB.size b1.size))
  clear b1 b2 B0 Z0 BB
  go_upto_region 2 with (refine store_el B2 HL L2 rfl rfl rfl rfl ?_)
  refine wp_gen (fun w3 => Hid (Blk w3 w.heap.size 29 (uvals s)) ∧ Hid (Blk w3 (w.heap.size + 1) 29 (uvals zero5)) ∧ Below w.heap.size w w3) ⟨Lib.hid (B2.out.setRow _), Lib.hid (Z2.out.farRow (by omega) _), below_row BB2 _ _ (Nat.le_refl _)⟩ ?_
  rintro w3 ⟨B3, Z3, BB3⟩
  clear B2 Z2 BB2
  go_wp2_with (refine load_arr B3 L2 rfl rfl rfl ?_)
  go_loop [3, 12] (fun vc vi => ∃ i : Nat, i ≤ 5 ∧ vi = .int .i64 i ∧ vc = .int .u64 (cst 19 s i : Nat)) (fun _ vi => 5 - (intOf vi).toNat)
  case atStart => exact ⟨0, by omega, rfl, rfl⟩
  case round =>
    obtain ⟨i, hi, rfl, rfl⟩ := hrel
    by_cases hgo : i < 5
    · have hix := idx5 s L2.out i hgo
      have hx : s.getD i 0 < 2251799813685248 := mem_lt (by decide) TWO.out.1 i
      have hc : cst 19 s i ≤ 8192 := cst_le 19 s 0 (by omega) (fun d hd => by have := TWO.out.1 d hd; omega) i
      have E1 : Hid (cst 19 s (i + 1) = (s.getD i 0 + cst 19 s i) / 2251799813685248) := rfl
      generalize s.getD i 0 = x at *
      generalize cst 19 s i = c at *
      go_wp2_with fail
      have e1 : ((x : Int) + c) / 2251799813685248 = (cst 19 s (i + 1) : Nat) := by rw [E1.out]; omega
      rw [e1]
      go_round
      case rel => exact ⟨i + 1, by omega, by go_num, rfl⟩
      case measure => simp [intOf]; omega
    · obtain rfl : i = 5 := by omega
      have c0 := B3.out.ucell 0 (by rw [L2.out]; omega)
      have f0 := B3.out.free 0
      have hx : s.getD 0 0 < 2251799813685248 := mem_lt (by decide) TWO.out.1 0
      have hc : cst 19 s 5 ≤ 8192 := cst_le 19 s 0 (by omega) (fun d hd => by have := TWO.out.1 d hd; omega) 5
      have R4 : Hid (Blk (w3.setCell ⟨w.heap.size, 0, none⟩ (.int .u64 (s.getD 0 0 + cst 19 s 5 * 19 : Nat))) w.heap.size 29 (uvals (s.set 0 (s.getD 0 0 + cst 19 s 5 * 19)))) := B3.out.uset 0 _
      have R5 : Hid (Blk (w3.setCell ⟨w.heap.size, 0, none⟩ (.int .u64 (s.getD 0 0 + cst 19 s 5 * 19 : Nat))) (w.heap.size + 1) 29 (uvals zero5)) := Z3.out.far (by omega) _ _
      have R6 := below_set' BB3 w.heap.size 0 (.int .u64 (s.getD 0 0 + cst 19 s 5 * 19 : Nat)) (Nat.le_refl _)
      have LT : Hid ((s.set 0 (s.getD 0 0 + cst 19 s 5 * 19)).length = 5) := by show _ = _; rw [List.length_set]; exact L2.out
      have H64 : Hid (∀ d ∈ s.set 0 (s.getD 0 0 + cst 19 s 5 * 19), d < 2 ^ 63) := fun d hd => by
        rcases List.mem_or_eq_of_mem_set hd with h1 | h1
        · have := TWO.out.1 d h1; omega
        · omega
      generalize s.set 0 (s.getD 0 0 + cst 19 s 5 * 19) = t at *
      generalize s.getD 0 0 = x at *
      generalize cst 19 s 5 = c at *
      go_upto_region 9 with fail
      refine wp_gen (fun w4 => Hid (Blk w4 w.heap.size 29 (uvals t)) ∧ Hid (Blk w4 (w.heap.size + 1) 29 (uvals zero5)) ∧ Below w.heap.size w w4) ⟨R4, R5, R6⟩ ?_
      rintro w4 ⟨B4, Z4, BB4⟩
      clear R4 R5 R6 B3 Z3 BB3 c0 f0 hx hc TWO HS HA H63 L1
      go_wp2_with fail
      go_loopw [3, 28] (fun vc vi wr => ∃ i : Nat, i ≤ 5 ∧ vi = .int .i64 i ∧ vc = .int .u64 (cst 0 t i : Nat) ∧ Hid (Blk wr w.heap.size 29 (uvals (crl 0 t i))) ∧ Hid (Blk wr (w.heap.size + 1) 29 (uvals zero5)) ∧ Below w.heap.size w wr) (fun _ vi _ => 5 - (intOf vi).toNat)
      case atStart => exact ⟨0, by omega, rfl, rfl, by rw [crl_zero]; exact B4, Z4, BB4⟩
      case round =>
        clear B4 Z4 BB4
        obtain ⟨i, hi, rfl, rfl, hb, hz, hB⟩ := hrel
        by_cases hgo : i < 5
        · have c0 := hb.out.ucell i (by rw [crl_len 0 t i (by rw [LT.out]; omega), LT.out]; exact hgo)
          rw [crl_get 0 t i (by rw [LT.out]; exact hgo)] at c0
          have f0 := hb.out.free i
          have hx : t.getD i 0 < 9223372036854775808 := mem_lt (by decide) H64.out i
          have hc : cst 0 t i ≤ 8192 := cst_le 0 t 0 (by omega) H64.out i
          have E1 : Hid (cst 0 t (i + 1) = (t.getD i 0 + cst 0 t i) / 2251799813685248) := rfl
          have E2 : Hid (crd 0 t i = (t.getD i 0 + cst 0 t i) % 2251799813685248) := rfl
          have H1 := Lib.hid ((hb.out.uset i (t.getD i 0 + cst 0 t i)).uset i (crd 0 t i))
          have H2 := Lib.hid (((hz.out.far (show w.heap.size + 1 ≠ w.heap.size by omega) i (.int .u64 (t.getD i 0 + cst 0 t i : Nat)))).far (show w.heap.size + 1 ≠ w.heap.size by omega) i (.int .u64 (crd 0 t i : Nat)))
          have H3 := below_set' (below_set' hB w.heap.size i (.int .u64 (t.getD i 0 + cst 0 t i : Nat)) (Nat.le_refl _)) w.heap.size i (.int .u64 (crd 0 t i : Nat)) (Nat.le_refl _)
          have H4 := Lib.hid (crl_set2 0 t i (t.getD i 0 + cst 0 t i) (by rw [LT.out]; exact hgo))
          have hm := and_mask (t.getD i 0 + cst 0 t i) (by omega)
          generalize t.getD i 0 = x at *
          generalize cst 0 t i = c at *
          rw [← E2.out] at hm
          have hm' : bits .and .u64 ((x : Int) + c) 2251799813685247 = (crd 0 t i : Nat) := by rw [← hm]; simp
          clear hm
          go_wp2_with fail
          have e1 : ((x : Int) + c) / 2251799813685248 = (cst 0 t (i + 1) : Nat) := by rw [E1.out]; omega
          rw [e1]
          go_roundw
          case rel => exact ⟨i + 1, by omega, by go_num, rfl, H4.out ▸ H1.out, H2, H3⟩
          case measure => simp [intOf]; omega
        · obtain rfl : i = 5 := by omega
          have L5 : Hid ((crl 0 t 5).length = 5) := by show _ = _; rw [crl_len 0 t 5 (by rw [LT.out]; omega)]; exact LT.out
          generalize crl 0 t 5 = r at *
          go_wp2_with (first | refine load_el hb L5 rfl rfl rfl ?_ | refine store_el hz hz5 L5 rfl rfl rfl rfl ?_)
          exact ret_el rfl (hz.out.setRow _) L5.out rfl rfl ⟨by rw [HLS.out], below_row hB _ _ (by omega)⟩
end Go.Proofs.Ytopelehfffjfeaa
