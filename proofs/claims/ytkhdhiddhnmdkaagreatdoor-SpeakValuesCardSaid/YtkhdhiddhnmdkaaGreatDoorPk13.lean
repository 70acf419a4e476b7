/-
The field's products.
The field's questions and powers: Odd, Zero, Same, Neg, Square, power, Invert.
-/
import Derived.Test.YtkhdhiddhnmdkaaGreatDoorPk12
import Derived.Test.YtkhdhiddhnmdkaaGreatDoorPk02
namespace Go.Proofs.YtkhdhiddhnmdkaaGreatDoor
open Go.RowKit

/-- five totals in two words each -/
def svals (T : List Nat) : List Value := T.flatMap fun t => [.int .u64 (t % 18446744073709551616 : Nat), .int .u64 (t / 18446744073709551616 : Nat)]
theorem svals_get (T : List Nat) (hT : T.length = 5) (j : Nat) (hj : j < 5) : (svals T)[j * 2]? = some (.int .u64 (T.getD j 0 % 18446744073709551616 : Nat)) ∧ (svals T)[j * 2 + 1]? = some (.int .u64 (T.getD j 0 / 18446744073709551616 : Nat)) := by
  obtain ⟨a, b, c, d, e, rfl⟩ := five T hT
  match j, hj with
  | 0, _ => exact ⟨rfl, rfl⟩
  | 1, _ => exact ⟨rfl, rfl⟩
  | 2, _ => exact ⟨rfl, rfl⟩
  | 3, _ => exact ⟨rfl, rfl⟩
  | 4, _ => exact ⟨rfl, rfl⟩
theorem svals_set (T : List Nat) (hT : T.length = 5) (j : Nat) (hj : j < 5) (t : Nat) : ((svals T).set (j * 2) (.int .u64 (t % 18446744073709551616 : Nat))).set (j * 2 + 1) (.int .u64 (t / 18446744073709551616 : Nat)) = svals (T.set j t) := by
  obtain ⟨a, b, c, d, e, rfl⟩ := five T hT
  match j, hj with
  | 0, _ => rfl
  | 1, _ => rfl
  | 2, _ => rfl
  | 3, _ => rfl
  | 4, _ => rfl
theorem svals_zero : (svals [0, 0, 0, 0, 0]) = List.replicate 10 (.int .u64 0) := rfl
theorem sumAdd_T (b j x y : Nat) (ty : TypeId) (T : List Nat) (w : World) (hb : Blk w b ty (svals T)) (hT : T.length = 5) (hj : j < 5) (hx : x < 18446744073709551616) (hy : y < 18446744073709551616) (ht : T.getD j 0 + x * y < 2 ^ 128) :
    Calls Tryz.prog 69 #[.pointer (some ⟨b, j * 2, none⟩), .int .u64 x, .int .u64 y] w fun e w' => e = .returned (.tuple #[]) ∧ Blk w' b ty (svals (T.set j (T.getD j 0 + x * y))) ∧ Only b w w' := by
  obtain ⟨g0, g1⟩ := svals_get T hT j hj
  have e0 := Nat.mod_add_div (T.getD j 0) 18446744073709551616
  have hlt : T.getD j 0 < 2 ^ 128 := by omega
  refine (sumAdd_ok b (j * 2) _ _ x y w (hb.cell _ _ g0) (hb.cell _ _ g1) (hb.free _) (hb.free _) (by omega) (by omega) hx hy (by rw [e0]; exact ht)).mono ?_
  rintro e w' ⟨rfl, rfl⟩
  rw [e0]
  refine ⟨rfl, ?_, ((Only.refl b w).set _ _).set _ _⟩
  rw [← svals_set T hT j hj]
  exact (hb.set _ _).set _ _
/-- the blocks of a product under way -/
def P4 (wr w : World) (a b c T : List Nat) : Prop := P3 wr w a b c ∧ Blk wr (w.heap.size + 3) 120 (svals T)
theorem P4.only {wr wr' w : World} {a b c T T' : List Nat} (h : P4 wr w a b c T) (ho : Only (w.heap.size + 3) wr wr') (hb : Blk wr' (w.heap.size + 3) 120 (svals T')) : P4 wr' w a b c T' :=
  ⟨⟨ho.blk h.1.1 (by omega), ho.blk h.1.2.1 (by omega), ho.blk h.1.2.2.1 (by omega), h.1.2.2.2.trans (ho.below h.1.2.2.2.size (by omega))⟩, hb⟩
theorem P4.far {wr w : World} {a b c T : List Nat} {g : Nat} (h : P4 wr w a b c T) (hg : w.heap.size + 3 < g) (i : Nat) (v : Value) : P4 (wr.setCell ⟨g, i, none⟩ v) w a b c T :=
  ⟨⟨h.1.1.far (by omega) _ _, h.1.2.1.far (by omega) _ _, h.1.2.2.1.far (by omega) _ _, below_set' h.1.2.2.2 _ _ _ (by omega)⟩, h.2.far (by omega) _ _⟩
theorem P4.drew {wr w : World} {a b c T : List Nat} (h : P4 wr w a b c T) (n : Nat) : P4 (wr.drewN n) w a b c T := ⟨h.1.drew n, h.2.drew n⟩
theorem P4.start (w : World) (a b : List Nat) : P4 ((((w.alloc (.cells (uvals a).toArray 70)).alloc (.cells (uvals b).toArray 70)).alloc (.cells (uvals zero5).toArray 70)).alloc (.cells (svals zero5).toArray 120)) w a b zero5 zero5 := by
  refine ⟨(P3.start w a b).below (below1 _ _), ?_⟩
  have := Blk.new (((w.alloc (.cells (uvals a).toArray 70)).alloc (.cells (uvals b).toArray 70)).alloc (.cells (uvals zero5).toArray 70)) 120 (svals zero5)
  rwa [show (((w.alloc (.cells (uvals a).toArray 70)).alloc (.cells (uvals b).toArray 70)).alloc (.cells (uvals zero5).toArray 70)).heap.size = w.heap.size + 3 by simp] at this
theorem or_shift (h l : Nat) (hh : h < 2251799813685248) (hl : l < 8192) : bits .or .u64 ((h : Int) * 8192) (l : Int) = ((h * 8192 + l : Nat) : Int) := by
  have h1 := bits_or_u64_nat (h * 8192) l (by omega) (by omega)
  have e : h * 8192 ||| l = h * 8192 + l := by
    rw [Nat.mul_comm, show (8192 : Nat) = 2 ^ 13 from rfl, ← Nat.two_pow_add_eq_or_of_lt (by omega)]
  rw [e] at h1
  rw [← h1]; simp
/-- the product's limbs, so far -/
def outL (T : List Nat) (i : Nat) : List Nat := (List.range i).map (crd 0 T) ++ List.replicate (5 - i) 0
theorem outL_len (T : List Nat) (i : Nat) (h : i ≤ 5) : (outL T i).length = 5 := by simp [outL]; omega
theorem outL_set (T : List Nat) (i : Nat) (h : i < 5) : (outL T i).set i (crd 0 T i) = outL T (i + 1) := by
  unfold outL
  rw [List.set_append_right _ _ (by simp), List.length_map, List.length_range, Nat.sub_self, show 5 - i = (5 - (i + 1)) + 1 by omega, List.replicate_succ, List.set_cons_zero, List.range_succ, List.map_append, List.append_assoc]
  rfl
theorem outL_get (T : List Nat) (i : Nat) (h : i < 5) : (outL T i).getD i 0 = 0 := by
  unfold outL
  rw [List.getD_eq_getElem?_getD, List.getElem?_append_right (by simp), List.length_map, List.length_range, Nat.sub_self, show 5 - i = (5 - (i + 1)) + 1 by omega, List.replicate_succ]
  rfl
theorem outL_end (T : List Nat) (h : T.length = 5) : outL T 5 = crl 0 T 5 := by
  unfold outL crl
  rw [List.drop_of_length_le (by omega)]; rfl
set_option maxHeartbeats 4000000 in
set_option maxRecDepth 100000 in
theorem el_mul_ok (a b : List Nat) (w : World) (ha : Lm a (lv a % pP)) (hb : Lm b (lv b % pP)) :
    Calls Tryz.prog 40 #[ev a, ev b] w fun e w' => e = .returned (ev (mulF a b)) ∧ Below w.heap.size w w' := by
  have HA := Lib.hid ha
  have HB := Lib.hid hb
  have LA := Lib.hid ha.len
  have LB := Lib.hid hb.len
  clear ha hb
  show Calls _ _ #[.agg (uvals a).toArray, .agg (uvals b).toArray] _ _
  go_enter Tryz.func40, Tryz.ntmps40
  go_upto_region 2 with fail
  refine wp_gen (fun w0 => Hid (P4 w0 w a b zero5 (mulI a b 0))) (P4.start w a b) ?_
  rintro w0 P0
  have P01 := Lib.hid P0.out.1.1
  go_wp2_with (refine load_arr P01 LA rfl rfl rfl ?_)
  clear P01
  go_loopw [19] (fun vi wr => ∃ i : Nat, i ≤ 5 ∧ vi = .int .i64 i ∧ Hid (P4 wr w a b zero5 (mulI a b i))) (fun vi _ => 5 - (intOf vi).toNat)
  case atStart => exact ⟨0, by omega, rfl, P0⟩
  case round =>
    clear P0
    obtain ⟨i, hi, rfl, p⟩ := hrel
    by_cases hgo : i < 5
    · have INV := Lib.hid (mulI_inv HA.out HB.out i hi)
      have hix := idx5 a LA.out i hgo
      have P11 := Lib.hid p.out.1.2.1
      have hx : a.getD i 0 < 4503599627370496 := mem_lt (by decide) HA.out.small i
      have EQ : Hid (mulI a b (i + 1) = mulK a b i 5 (mulI a b i)) := rfl
      generalize hT0 : mulI a b i = T0 at *
      generalize hX : a.getD i 0 = x at *
      have HX := Lib.hid hX
      clear hX hT0
      go_wp2_with (refine load_arr P11 LB rfl rfl rfl ?_)
      clear P11
      go_loopw [25] (fun vk wr => ∃ k : Nat, k ≤ 5 ∧ vk = .int .i64 k ∧ Hid (P4 wr w a b zero5 (mulK a b i k T0))) (fun vk _ => 5 - (intOf vk).toNat)
      case atStart => exact ⟨0, by omega, rfl, p⟩
      case round =>
        clear p
        obtain ⟨k, hk, rfl, p⟩ := hrel
        by_cases hgk : k < 5
        · have hik := idx5 b LB.out k hgk
          have IK := Lib.hid (mulK_inv INV.out hgo HA.out HB.out k hk)
          have ST := Lib.hid (IK.out.step hgo hgk LB.out HA.out.small HB.out.small LA.out)
          have EK : Hid (mulK a b i (k + 1) T0 = (mulK a b i k T0).set (mj i k) ((mulK a b i k T0).getD (mj i k) 0 + mf i k * a.getD i 0 * b.getD k 0)) := rfl
          rw [HX.out] at ST EK
          have hy : b.getD k 0 < 4503599627370496 := mem_lt (by decide) HB.out.small k
          generalize b.getD k 0 = y at *
          generalize hTK : mulK a b i k T0 = TK at *
          clear hTK
          have LT := Lib.hid IK.out.1
          by_cases hlt : i + k < 5
          · have hj : Hid (mj i k = i + k) := if_pos hlt
            have hf : Hid (mf i k = 1) := if_pos hlt
            rw [hj.out, hf.out, Nat.one_mul] at ST EK
            have hd : decide ((i : Int) + k < 5) = true := decide_eq_true (by omega)
            go_wp2_with fail
            refine (sumAdd_T _ (i + k) x y _ TK wr p.out.2 LT.out hlt (by omega) (by omega) (by have := ST.out.2.2; simpa [Nat.mul_assoc] using this)).mono ?_
            rintro e w2 ⟨rfl, hb2, ho2⟩
            rw [← EK.out] at hb2
            have PN := Lib.hid (p.out.only ho2 hb2)
            clear hb2 ho2 p
            go_wp2_with fail
            go_roundw
            case rel => exact ⟨k + 1, by omega, by go_num, PN⟩
            case measure => simp [intOf]; omega
          · have hj : Hid (mj i k = i + k - 5) := if_neg hlt
            have hf : Hid (mf i k = 19) := if_neg hlt
            rw [hj.out, hf.out] at ST EK
            obtain ⟨j, hij⟩ : ∃ j, i + k = j + 5 := ⟨i + k - 5, by omega⟩
            rw [hij, Nat.add_sub_cancel] at ST EK
            have hij5 : (i : Int) + k - 5 = j := by omega
            have HIJ5 := Lib.hid hij5
            have hd : decide ((i : Int) + k < 5) = false := decide_eq_false (by omega)
            clear hij5
            have e19 : TK.getD j 0 + 19 * x * y = TK.getD j 0 + x * 19 * y := by rw [Nat.mul_comm 19]
            rw [e19] at ST EK
            go_wp2_with fail
            rw [show ((x : Int) * 19) = ((x * 19 : Nat) : Int) by simp]
            refine (sumAdd_T _ j (x * 19) y _ TK wr p.out.2 LT.out (by omega) (by omega) (by omega) ST.out.2.2).mono ?_
            rintro e w2 ⟨rfl, hb2, ho2⟩
            rw [← EK.out] at hb2
            have PN := Lib.hid (p.out.only ho2 hb2)
            clear hb2 ho2 p
            go_wp2_with fail
            go_roundw
            case rel => exact ⟨k + 1, by omega, by go_num, PN⟩
            case measure => simp [intOf]; omega
        · obtain rfl : k = 5 := by omega
          rw [← EQ.out] at p
          go_wp2_with fail
          go_roundw
          case rel => exact ⟨i + 1, by omega, by go_num, p⟩
          case measure => simp [intOf]; omega
    · obtain rfl : i = 5 := by omega
      have INV := Lib.hid (mulI_inv HA.out HB.out 5 (by omega))
      have OK := Lib.hid (mulN_ok a b (mulI a b 5) INV.out LA.out)
      have EM : Hid (mulF a b = mulN (mulI a b 5)) := rfl
      have LT := Lib.hid INV.out.1
      have TS := Lib.hid INV.out.2.1
      generalize mulI a b 5 = T at *
      go_upto_region 14 with fail
      obtain ⟨bo, hbo⟩ : ∃ bo, bo = wr.heap.size := ⟨_, rfl⟩
      have hbo3 : w.heap.size + 3 < bo := by rw [hbo]; exact p.out.2.lt
      rw [← hbo]
      refine wp_gen (fun w4 => Hid (P4 w4 w a b zero5 T) ∧ Hid (Blk w4 bo 70 (uvals (outL T 0)))) ⟨⟨p.out.1.below (below1 _ _), p.out.2.below (below1 _ _) p.out.2.lt⟩, by rw [hbo]; exact Blk.new _ _ (uvals zero5)⟩ ?_
      rintro w4 ⟨p4, q4⟩
      clear p hbo INV
      go_wp2_with fail
      rw [show (((5 : Nat)) : Int) = 5 from rfl]
      go_loopw [11, 51] (fun vc vi wr => ∃ (i : Nat) (S : List Nat), i ≤ 5 ∧ vi = .int .i64 i ∧ vc = .int .u64 (cst 0 T i : Nat) ∧ Hid (P4 wr w a b zero5 S) ∧ Hid (S.length = 5) ∧ Hid (∀ j, i ≤ j → S.getD j 0 = T.getD j 0) ∧ Hid (Blk wr bo 70 (uvals (outL T i)))) (fun _ vi _ => 5 - (intOf vi).toNat)
      case atStart => exact ⟨0, T, by omega, rfl, rfl, p4, LT, fun _ _ => rfl, q4⟩
      case round =>
        clear p4 q4
        obtain ⟨i, S, hi, rfl, rfl, p, SL, SE, q⟩ := hrel
        by_cases hgo : i < 5
        · have g := svals_get S SL.out i hgo
          have c0 := p.out.2.cell _ _ g.1
          have c1 := p.out.2.cell _ _ g.2
          rw [SE.out i (Nat.le_refl _)] at c0 c1
          have f0 := p.out.2.free (i * 2)
          have f1 := p.out.2.free (i * 2 + 1)
          have hc : cst 0 T i ≤ 9223372036854775808 := cst_112 T (fun d hd => by have := TS.out d hd; omega) i
          have ht : T.getD i 0 ≤ 25 * 2 ^ 109 := by
            have hm : ∀ d ∈ T, d < 25 * 2 ^ 109 + 1 := fun d hd => by have := TS.out d hd; omega
            have := mem_lt (by decide) hm i
            omega
          have E1 : Hid (cst 0 T (i + 1) = (T.getD i 0 + cst 0 T i) / 2251799813685248) := rfl
          have E2 : Hid (crd 0 T i = (T.getD i 0 + cst 0 T i) % 2251799813685248) := rfl
          clear g
          generalize T.getD i 0 = t at *
          generalize cst 0 T i = c at *
          have hlo : t % 18446744073709551616 < 18446744073709551616 := Nat.mod_lt _ (by omega)
          have hhi : t / 18446744073709551616 < 1125899906842624 := by omega
          obtain ⟨s, d, e1, hs, hd, hr⟩ := add64 (t % 18446744073709551616) c 0 hlo (by omega) (by omega)
          have q1 : (t + c) % 18446744073709551616 = s := by omega
          have q2 : (t + c) / 18446744073709551616 = t / 18446744073709551616 + d := by omega
          have N0 : Hid (Blk ((wr.setCell ⟨w.heap.size + 3, i * 2, none⟩ (.int .u64 s)).setCell ⟨w.heap.size + 3, i * 2 + 1, none⟩ (.int .u64 (t / 18446744073709551616 + d : Nat))) (w.heap.size + 3) 120 (svals (S.set i (t + c)))) := by
            have h := (p.out.2.set (i * 2) (.int .u64 ((t + c) % 18446744073709551616 : Nat))).set (i * 2 + 1) (.int .u64 ((t + c) / 18446744073709551616 : Nat))
            rw [svals_set S SL.out i hgo, q1, q2] at h
            exact h
          have N1 : Hid (P4 ((wr.setCell ⟨w.heap.size + 3, i * 2, none⟩ (.int .u64 s)).setCell ⟨w.heap.size + 3, i * 2 + 1, none⟩ (.int .u64 (t / 18446744073709551616 + d : Nat))) w a b zero5 (S.set i (t + c))) := p.out.only (((Only.refl _ _).set _ _).set _ _) N0.out
          have N2 : Hid (Blk ((wr.setCell ⟨w.heap.size + 3, i * 2, none⟩ (.int .u64 s)).setCell ⟨w.heap.size + 3, i * 2 + 1, none⟩ (.int .u64 (t / 18446744073709551616 + d : Nat))) bo 70 (uvals (outL T i))) := (q.out.far (by omega) _ _).far (by omega) _ _
          have SL2 : Hid ((S.set i (t + c)).length = 5) := by show _ = _; rw [List.length_set]; exact SL.out
          have SE2 : Hid (∀ j, i + 1 ≤ j → (S.set i (t + c)).getD j 0 = T.getD j 0) := fun j hj => by
            rw [List.getD_eq_getElem?_getD, List.getElem?_set_ne (by omega), ← List.getD_eq_getElem?_getD]
            exact SE.out j (by omega)
          have E1' : Hid ((t / 18446744073709551616 + d) * 8192 + s / 2251799813685248 = cst 0 T (i + 1)) := by show _ = _; rw [E1.out]; omega
          have E2' : Hid (s % 2251799813685248 = crd 0 T i) := by show _ = _; rw [E2.out]; omega
          have Q := Lib.hid e1
          have hr' : ∀ w, (callFunc 70 #[.int .u64 (t % 18446744073709551616 : Nat), .int .u64 c, .int .u64 0]).run Tryz.prog w = .ok (.value (.tuple #[.int .u64 s, .int .u64 d])) w := hr
          have Q1 := Lib.hid q1
          have Q2 := Lib.hid q2
          clear e1 q1 q2 p q SE SL hr
          generalize t / 18446744073709551616 = th at *
          generalize t % 18446744073709551616 = tl at *
          go_upto_region 21 with fail
          obtain ⟨u, hu⟩ : ∃ u, u = th + d := ⟨_, rfl⟩
          have hu51 : u < 2251799813685248 := by omega
          have GS := svals_get (S.set i (t + c)) SL2.out i hgo
          have hgg : (S.set i (t + c)).getD i 0 = t + c := by
            rw [List.getD_eq_getElem?_getD, List.getElem?_set_self (by have := SL2.out; rw [List.length_set] at this; omega)]; rfl
          rw [hgg, Q1.out, Q2.out, ← hu] at GS
          refine wp_gen (fun w5 => Hid (P4 w5 w a b zero5 (S.set i (t + c))) ∧ Hid (Blk w5 bo 70 (uvals (outL T i))) ∧ w5.cell? ⟨w.heap.size + 3, i * 2, none⟩ = some (.int .u64 s) ∧ w5.cell? ⟨w.heap.size + 3, i * 2 + 1, none⟩ = some (.int .u64 u)) ⟨N1, N2, N0.out.cell _ _ GS.1, N0.out.cell _ _ GS.2⟩ ?_
          rintro w5 ⟨p5, q5, c50, c51⟩
          have hor : bits .or .u64 ((u : Int) * 8192) ((s : Int) / 2251799813685248) = (cst 0 T (i + 1) : Nat) := by
            have h := or_shift u (s / 2251799813685248) hu51 (by omega)
            rw [hu, E1'.out] at h
            rw [← h]; simp
            rw [hu]; simp
          have hmk : bits .and .u64 (s : Int) 2251799813685247 = (crd 0 T i : Nat) := by rw [← E2'.out]; exact and_mask s hs
          have co := q5.out.ucell i (by rw [outL_len T i hi]; exact hgo)
          have fo := q5.out.free i
          clear N0 N1 N2 c0 c1 f0 f1 hr' hgg GS hu Q Q1 Q2 E1 E2 E1' E2' hhi hlo ht
          have M1 : Hid (∀ n, P4 ((w5.drewN n).setCell ⟨bo, i, none⟩ (.int .u64 (crd 0 T i : Nat))) w a b zero5 (S.set i (t + c))) := fun n => (p5.out.drew n).far hbo3 _ _
          have M2 : Hid (∀ n, Blk ((w5.drewN n).setCell ⟨bo, i, none⟩ (.int .u64 (crd 0 T i : Nat))) bo 70 (uvals (outL T (i + 1)))) := fun n => by
            rw [← outL_set T i hgo]; exact (q5.out.drew n).uset i _
          go_quiet (fail)
          go_wp2_with fail
          go_roundw
          case rel => exact ⟨i + 1, _, by omega, by go_num, rfl, M1.out _, SL2, SE2, M2.out _⟩
          case measure => simp [intOf]; omega
        · obtain rfl : i = 5 := by omega
          rw [outL_end T LT.out] at q
          have hc : cst 0 T 5 ≤ 9223372036854775808 := OK.out.2.2.2.1
          have CL : Hid ((crl 0 T 5).length = 5) := OK.out.2.2.2.2.1
          have hx0 : (crl 0 T 5).getD 0 0 < 2251799813685248 := mem_lt (by decide) OK.out.2.2.2.2.2 0
          have hx1 : (crl 0 T 5).getD 1 0 < 2251799813685248 := mem_lt (by decide) OK.out.2.2.2.2.2 1
          have c0 := q.out.ucell 0 (by rw [CL.out]; omega)
          have c1 := q.out.ucell 1 (by rw [CL.out]; omega)
          have f0 := q.out.free 0
          have f1 := q.out.free 1
          have EMN : Hid (mulN T = carryN (((crl 0 T 5).set 0 ((19 * cst 0 T 5 + (crl 0 T 5).getD 0 0) % 2251799813685248)).set 1 ((crl 0 T 5).getD 1 0 + (19 * cst 0 T 5 + (crl 0 T 5).getD 0 0) / 2251799813685248))) := rfl
          have LL : Hid ((((crl 0 T 5).set 0 ((19 * cst 0 T 5 + (crl 0 T 5).getD 0 0) % 2251799813685248)).set 1 ((crl 0 T 5).getD 1 0 + (19 * cst 0 T 5 + (crl 0 T 5).getD 0 0) / 2251799813685248)).length = 5) := by
            show _ = _; rw [List.length_set, List.length_set]; exact CL.out
          have LS : Hid (∀ d ∈ ((crl 0 T 5).set 0 ((19 * cst 0 T 5 + (crl 0 T 5).getD 0 0) % 2251799813685248)).set 1 ((crl 0 T 5).getD 1 0 + (19 * cst 0 T 5 + (crl 0 T 5).getD 0 0) / 2251799813685248), d < 2 ^ 63) := fun d hd => by
            rcases List.mem_or_eq_of_mem_set hd with h3 | h3
            · rcases List.mem_or_eq_of_mem_set h3 with h4 | h4
              · have := OK.out.2.2.2.2.2 d h4; omega
              · omega
            · omega
          have M1 := fun (x y : Nat) => Lib.hid ((q.out.uset 0 x).uset 1 y)
          have M2 := fun (x y : Nat) => Lib.hid ((p.out.far hbo3 0 (.int .u64 x)).far hbo3 1 (.int .u64 y))
          clear p q TS OK
          have N1 := Lib.hid (M1 ((19 * cst 0 T 5 + (crl 0 T 5).getD 0 0) % 2251799813685248) ((crl 0 T 5).getD 1 0 + (19 * cst 0 T 5 + (crl 0 T 5).getD 0 0) / 2251799813685248)).out
          have N2 := Lib.hid (M2 ((19 * cst 0 T 5 + (crl 0 T 5).getD 0 0) % 2251799813685248) ((crl 0 T 5).getD 1 0 + (19 * cst 0 T 5 + (crl 0 T 5).getD 0 0) / 2251799813685248)).out
          clear M1 M2
          generalize hL : ((crl 0 T 5).set 0 ((19 * cst 0 T 5 + (crl 0 T 5).getD 0 0) % 2251799813685248)).set 1 ((crl 0 T 5).getD 1 0 + (19 * cst 0 T 5 + (crl 0 T 5).getD 0 0) / 2251799813685248) = L at *
          generalize (crl 0 T 5).getD 0 0 = x0 at *
          generalize (crl 0 T 5).getD 1 0 = x1 at *
          generalize cst 0 T 5 = c at *
          clear hL CL
          go_wp2_with fail
          have h19 : Calls Tryz.prog 71 #[.int .u64 c, .int .u64 19] wr fun e w' => ∃ hi lo : Nat, e = .returned (.tuple #[.int .u64 hi, .int .u64 lo]) ∧ Hid (lo + 18446744073709551616 * hi = c * 19) ∧ lo < 18446744073709551616 ∧ hi < 18446744073709551616 ∧ wr = w' := mul64 c 19 (by omega) (by omega) wr
          refine h19.mono ?_
          rintro e w' ⟨hi, lo, rfl, hp, hlo, hhi, rfl⟩
          have hp' := hp.out
          have hhi2 : hi < 100 := by omega
          obtain ⟨s, d, e1, hs, hd, hr⟩ := add64 lo x0 0 hlo (by omega) (by omega)
          have hr' : ∀ w, (callFunc 70 #[.int .u64 lo, .int .u64 x0, .int .u64 0]).run Tryz.prog w = .ok (.value (.tuple #[.int .u64 s, .int .u64 d])) w := hr
          have q1 : (19 * c + x0) % 2251799813685248 = s % 2251799813685248 := by omega
          have q2 : (19 * c + x0) / 2251799813685248 = (hi + d) * 8192 + s / 2251799813685248 := by omega
          rw [q1, q2] at N1 N2
          have hsm := and_mask s hs
          have hor : bits .or .u64 (((hi : Int) + d) * 8192) ((s : Int) / 2251799813685248) = (((hi + d) * 8192 + s / 2251799813685248 : Nat) : Int) := by
            have h := or_shift (hi + d) (s / 2251799813685248) (by omega) (by omega)
            rw [← h]; simp
          have ho : (hi + d) * 8192 + s / 2251799813685248 < 1048576 := by omega
          generalize hz1 : (hi + d) * 8192 + s / 2251799813685248 = z1 at *
          generalize hz0 : s % 2251799813685248 = z0 at *
          clear hz1 hz0 q1 q2 e1 hp' hp hr
          go_upto_region 29 with fail
          refine wp_gen (fun w6 => Hid (Blk w6 bo 70 (uvals L)) ∧ Hid (P4 w6 w a b zero5 S)) ⟨N1, N2⟩ ?_
          rintro w6 ⟨q6, p6⟩
          clear N1 N2 c0 c1 f0 f1 hr' hor hsm
          go_wp2_with (refine load_el q6 LL rfl rfl rfl ?_)
          refine (el_carry_ok L w6 LL.out LS.out).mono ?_
          rintro e w7 ⟨rfl, b7⟩
          unfold ev
          have L5 : Hid ((carryN L).length = 5) := carryN_len _ LL.out
          have PP := Lib.hid (p6.out.1.below b7)
          have Z := Lib.hid PP.out.2.2.1
          go_wp2_with (refine store_el Z hz5 L5 rfl rfl rfl rfl ?_)
          exact ret_el rfl (Z.out.setRow _) L5.out rfl rfl ⟨by rw [EM.out, EMN.out], below_row PP.out.2.2.2 _ _ (by omega)⟩
end Go.Proofs.YtkhdhiddhnmdkaaGreatDoor

namespace Go.Proofs.YtkhdhiddhnmdkaaGreatDoor
open Go.RowKit

theorem quiet_loadE {ops : Array Oper} {C : World → Prop} {a : Act} {o : Oper} {K : Act → Prop} {b : Nat} {x : Operand} {l : List Nat} {t : TypeId} (hb : ∀ w, C w → Blk w b t (uvals l)) (hl : l.length = 5)
    (hg : Region.wanted o (yielded ops a.tmps) = true) (ho : o.op = .load 70 x) (hx : a.eval x = .pointer (some ⟨b, 0, none⟩)) (h : K (a.put o.dst (.agg (uvals l).toArray))) :
    if Region.wanted o (yielded ops a.tmps) then o.quiet Tryz.prog a C K else K (a.put o.dst undef) :=
  quiet_loadB hb Tryz.underlying70 rfl elem_size (len5 hl) hg ho hx h

set_option maxHeartbeats 1000000 in
set_option maxRecDepth 100000 in
theorem el_odd_ok (a : List Nat) (w : World) (hl : a.length = 5) (ha : ∀ d ∈ a, d < 2 ^ 52) :
    Calls Tryz.prog 65 #[ev a] w fun e w' => e = .returned (.bool (oddN a)) ∧ Below w.heap.size w w' := by
  have HL := Lib.hid hl
  have B0 := Lib.hid (Blk.new w 70 (uvals a))
  have BB := below1 w (.cells (uvals a).toArray 70)
  have LL := Lib.hid (leastN_ok a hl ha)
  have HA := Lib.hid ha
  have ED : Hid (oddN a = decide ((leastN a).getD 0 0 % 2 = 1)) := rfl
  clear hl ha
  show Calls _ _ #[.agg (uvals a).toArray] _ _
  go_enter Tryz.func65, Tryz.ntmps65
  go_wp2_with (refine load_el B0 HL rfl rfl rfl ?_)
  refine (el_least_ok a _ HL.out HA.out).mono ?_
  rintro e w1 ⟨rfl, b1⟩
  have BF := BB.trans (b1.mono BB.size)
  have hix := idx5 (leastN a) LL.out.1 0 (by omega)
  have hfl := fld5 (leastN a) LL.out.1
  have hx : (leastN a).getD 0 0 < 2251799813685248 := mem_lt (by decide) LL.out.2.1 0
  have h1 : bits .and .u64 ((leastN a).getD 0 0 : Nat) 1 = (((leastN a).getD 0 0 % 2 : Nat) : Int) := by
    have h := bits_and_u64_nat ((leastN a).getD 0 0) 1 (by omega) (by omega)
    rwa [Nat.and_one_is_mod] at h
  clear b1 BB B0
  unfold ev
  have hix' : ∀ w, (Instr.index 68 (.agg (uvals (leastN a)).toArray) (.int .i64 0)).run Tryz.prog w = .ok (.int .u64 ((leastN a).getD 0 0 : Nat)) w := hix
  clear hix
  generalize (leastN a).getD 0 0 = x at *
  go_wp2_with fail
  go_ret
  refine ⟨ret_bool ?_, BF⟩
  rw [ED.out]
  by_cases e : x % 2 = 1
  · simp [e]; omega
  · simp [e]; omega
set_option maxHeartbeats 1000000 in
set_option maxRecDepth 100000 in
theorem el_zero_ok (a : List Nat) (w : World) (hl : a.length = 5) (ha : ∀ d ∈ a, d < 2 ^ 52) :
    Calls Tryz.prog 43 #[ev a] w fun e w' => e = .returned (.bool (zeroN a)) ∧ Below w.heap.size w w' := by
  have HL := Lib.hid hl
  have B0 := Lib.hid (Blk.new w 70 (uvals a))
  have BB := below1 w (.cells (uvals a).toArray 70)
  have LL := Lib.hid (leastN_ok a hl ha)
  have HA := Lib.hid ha
  have ED : Hid (zeroN a = decide (leastN a = zero5)) := rfl
  clear hl ha
  show Calls _ _ #[.agg (uvals a).toArray] _ _
  go_enter Tryz.func43, Tryz.ntmps43
  go_wp2_with (refine load_el B0 HL rfl rfl rfl ?_)
  refine (el_least_ok a _ HL.out HA.out).mono ?_
  rintro e w1 ⟨rfl, b1⟩
  have BF := BB.trans (b1.mono BB.size)
  have hq := fun w => eqEl w (leastN a) zero5 LL.out.1 rfl
  rw [zero5_eq] at hq
  clear b1 BB B0
  unfold ev
  go_wp2_with fail
  go_ret
  exact ⟨by rw [ED.out]; rfl, BF⟩
set_option maxHeartbeats 1000000 in
set_option maxRecDepth 100000 in
theorem el_same_ok (a b : List Nat) (w : World) (hl : a.length = 5) (hm : b.length = 5) (ha : ∀ d ∈ a, d < 2 ^ 52) (hb : ∀ d ∈ b, d < 2 ^ 52) :
    Calls Tryz.prog 106 #[ev a, ev b] w fun e w' => e = .returned (.bool (sameN a b)) ∧ Below w.heap.size w w' := by
  have HL := Lib.hid hl
  have HM := Lib.hid hm
  have HA := Lib.hid ha
  have HB := Lib.hid hb
  have LA := Lib.hid (leastN_ok a hl ha)
  have LB := Lib.hid (leastN_ok b hm hb)
  clear hl hm ha hb
  show Calls _ _ #[.agg (uvals a).toArray, .agg (uvals b).toArray] _ _
  go_enter Tryz.func106, Tryz.ntmps106
  go_upto_region 1 with fail
  refine wp_gen (fun w0 => Hid (Blk w0.drew w.heap.size 70 (uvals a)) ∧ Hid (Blk w0.drew (w.heap.size + 1) 70 (uvals b)) ∧ Below w.heap.size w w0.drew) ⟨((Blk.new w _ (uvals a)).alloc _), (Blk.new2 _ _ _ (uvals b)), below_drewN (below2 _ _ _) 1⟩ ?_
  rintro w0 ⟨P0, P1, BB⟩
  have hq := fun w => eqEl w (leastN a) (leastN b) LA.out.1 LB.out.1
  refine region_quiet (C := fun w' => Below w0.drew.heap.size w0.drew w') (by kernel_rfl) (by kernel_rfl) (Below.refl _ _) ?_
  ((with_reducible refine wpQuiet_step (fun K hK => ?_)); refine quiet_loadE (fun w' hw' => P0.out.below hw' P0.out.lt) HL.out (by first | rfl | simp [Region.wanted, yielded]) rfl (by go_simp) ?_; go_simp; (with_reducible apply hK); clear hK K)
  ((with_reducible refine wpQuiet_step (fun K hK => ?_)); refine quiet_callG (.agg (uvals (leastN a)).toArray) 74 #[.agg (uvals a).toArray] (by first | rfl | simp [Region.wanted, yielded]) (fun w' => by go_simp) (fun w' hw' => (el_least_ok a w' HL.out HA.out).mono (by rintro e w'' ⟨rfl, hb⟩; exact ⟨rfl, hw'.trans (hb.mono hw'.size)⟩)) ?_; go_simp; (with_reducible apply hK); clear hK K)
  ((with_reducible refine wpQuiet_step (fun K hK => ?_)); refine quiet_loadE (fun w' hw' => P1.out.below hw' P1.out.lt) HM.out (by first | rfl | simp [Region.wanted, yielded]) rfl (by go_simp) ?_; go_simp; (with_reducible apply hK); clear hK K)
  ((with_reducible refine wpQuiet_step (fun K hK => ?_)); refine quiet_callG (.agg (uvals (leastN b)).toArray) 74 #[.agg (uvals b).toArray] (by first | rfl | simp [Region.wanted, yielded]) (fun w' => by go_simp) (fun w' hw' => (el_least_ok b w' HM.out HB.out).mono (by rintro e w'' ⟨rfl, hb⟩; exact ⟨rfl, hw'.trans (hb.mono hw'.size)⟩)) ?_; go_simp; (with_reducible apply hK); clear hK K)
  ((with_reducible refine wpQuiet_step (fun K hK => ?_)); refine quiet_plainG (.bool (sameN a b)) (by first | rfl | simp [Region.wanted, yielded]) (fun w' hw' => by have h := hq w'; go_simp; try simp [sameN]) ?_; go_simp; (with_reducible apply hK); clear hK K)
  ((with_reducible refine wpQuiet_step (fun K hK => ?_)); refine quiet_plainG (.bool (sameN a b)) (by first | rfl | simp [Region.wanted, yielded]) (fun w' hw' => by go_simp) ?_; go_simp; (with_reducible apply hK); clear hK K)
  refine wpQuiet_nil ?_
  intro w5 hw5
  go_wp2_with fail
  go_ret
  exact ⟨rfl, BB.trans (Below.mono hw5 BB.size)⟩
set_option maxHeartbeats 1000000 in
set_option maxRecDepth 100000 in
theorem el_neg_ok (a : List Nat) (w : World) (hl : a.length = 5) (ha : ∀ d ∈ a, d < 2 ^ 52) :
    Calls Tryz.prog 57 #[ev a] w fun e w' => e = .returned (ev (negN a)) ∧ Below w.heap.size w w' := by
  have HL := Lib.hid hl
  have HA := Lib.hid ha
  clear hl ha
  show Calls _ _ #[.agg (uvals a).toArray] _ _
  go_enter Tryz.func57, Tryz.ntmps57
  go_upto_region 1 with fail
  refine wp_gen (fun w0 => Hid (Blk w0 w.heap.size 70 (uvals a)) ∧ Hid (Blk w0 (w.heap.size + 1) 70 (uvals zero5)) ∧ Below w.heap.size w w0) ⟨((Blk.new w _ (uvals a)).alloc _), (Blk.new2 _ _ _ (uvals zero5)), below2 _ _ _⟩ ?_
  rintro w0 ⟨P0, P1, BB⟩
  go_wp2_with (refine load_el P0 HL rfl rfl rfl ?_)
  refine (el_sub_ok zero5 a w0 rfl HL.out (by decide) HA.out).mono ?_
  rintro e w1 ⟨rfl, b1⟩
  unfold ev
  have L5 : Hid ((subN zero5 a).length = 5) := carryN_len _ (by
    show (subL (addL zero5 twoP) (carryN a)).length = 5
    simp [subL, addL_len (show zero5.length = 5 from rfl) (show twoP.length = 5 from rfl), carryN_len a HL.out])
  have Z := Lib.hid (P1.out.below b1 P1.out.lt)
  have BZ := BB.trans (b1.mono BB.size)
  go_wp2_with (refine store_el Z hz5 L5 rfl rfl rfl rfl ?_)
  exact ret_el rfl (Z.out.setRow _) L5.out rfl rfl ⟨rfl, below_row BZ _ _ (by omega)⟩
set_option maxHeartbeats 1000000 in
set_option maxRecDepth 100000 in
theorem el_square_ok (a : List Nat) (w : World) (ha : Lm a (lv a % pP)) :
    Calls Tryz.prog 68 #[ev a] w fun e w' => e = .returned (ev (mulF a a)) ∧ Below w.heap.size w w' := by
  have HA := Lib.hid ha
  have HL := Lib.hid ha.len
  have L5 := Lib.hid (ha.mul ha).len
  clear ha
  show Calls _ _ #[.agg (uvals a).toArray] _ _
  go_enter Tryz.func68, Tryz.ntmps68
  go_upto_region 1 with fail
  refine wp_gen (fun w0 => Hid (Blk w0 w.heap.size 70 (uvals a)) ∧ Hid (Blk w0 (w.heap.size + 1) 70 (uvals zero5)) ∧ Below w.heap.size w w0) ⟨((Blk.new w _ (uvals a)).alloc _), (Blk.new2 _ _ _ (uvals zero5)), below2 _ _ _⟩ ?_
  rintro w0 ⟨P0, P1, BB⟩
  go_wp2_with (refine load_el P0 HL rfl rfl rfl ?_)
  refine (el_mul_ok a a w0 HA.out HA.out).mono ?_
  rintro e w1 ⟨rfl, b1⟩
  unfold ev
  have Z := Lib.hid (P1.out.below b1 P1.out.lt)
  have BZ := BB.trans (b1.mono BB.size)
  go_wp2_with (refine store_el Z hz5 L5 rfl rfl rfl rfl ?_)
  exact ret_el rfl (Z.out.setRow _) L5.out rfl rfl ⟨rfl, below_row BZ _ _ (by omega)⟩
end Go.Proofs.YtkhdhiddhnmdkaaGreatDoor
