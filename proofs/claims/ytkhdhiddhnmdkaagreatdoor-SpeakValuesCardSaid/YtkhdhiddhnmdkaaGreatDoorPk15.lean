/-
The bytes of the field's elements.
The field's inverse, and the root of -1.
Steps of a drifting region over the field's elements; its usual tail: a new variable, and the store into it.
-/
import Derived.Test.YtkhdhiddhnmdkaaGreatDoorPk14
import Derived.Test.YtkhdhiddhnmdkaaGreatDoorPk03
namespace Go.Proofs.YtkhdhiddhnmdkaaGreatDoor
open Go.RowKit

def b8 (l : List Nat) : List Value := l.map fun d => Value.int .u8 (d : Nat)
theorem b8_get (l : List Nat) (i : Nat) (h : i < l.length) : (b8 l)[i]? = some (.int .u8 (l.getD i 0 : Nat)) := by simp [b8, h]
theorem b8_len (l : List Nat) : (b8 l).length = l.length := by simp [b8]
theorem Blk.b8set {w : World} {b : Nat} {t : TypeId} {l : List Nat} (h : Blk w b t (b8 l)) (i d : Nat) : Blk (w.setCell ⟨b, i, none⟩ (.int .u8 (d : Nat))) b t (b8 (l.set i d)) := by
  have := h.set i (.int .u8 (d : Nat))
  have e : (b8 l).set i (.int .u8 (d : Nat)) = b8 (l.set i d) := by simp [b8, List.map_set]
  rwa [e] at this
theorem Blk.b8cell {w : World} {b : Nat} {t : TypeId} {l : List Nat} (h : Blk w b t (b8 l)) (i : Nat) (hi : i < l.length) : w.cell? ⟨b, i, none⟩ = some (.int .u8 (l.getD i 0 : Nat)) := h.cell i _ (b8_get l i hi)
theorem b8_le (N : Nat) : b8 (digs 8 32 N) = bvals (leBytes N 32) := by
  unfold b8 bvals digs leBytes
  rw [List.map_map, List.map_map]
  apply List.map_congr_left
  intro j _
  simp only [Function.comp]
  rw [u8_of, Nat.pow_mul]
theorem b8_zero : (b8 (digs 8 32 0)).toArray = #[.int .u8 0, .int .u8 0, .int .u8 0, .int .u8 0, .int .u8 0, .int .u8 0, .int .u8 0, .int .u8 0, .int .u8 0, .int .u8 0, .int .u8 0, .int .u8 0, .int .u8 0, .int .u8 0, .int .u8 0, .int .u8 0, .int .u8 0, .int .u8 0, .int .u8 0, .int .u8 0, .int .u8 0, .int .u8 0, .int .u8 0, .int .u8 0, .int .u8 0, .int .u8 0, .int .u8 0, .int .u8 0, .int .u8 0, .int .u8 0, .int .u8 0, .int .u8 0] := by
  rw [digs_zero]; rfl
theorem u8_or_low (x y k : Nat) (hx : x < 2 ^ k) (hk : k ≤ 7) (hy : y < 2) : bits .or .u8 (x : Int) ((y : Int) * 2 ^ k) = ((x + y * 2 ^ k : Nat) : Int) := by
  have hp : 2 ^ k ≤ 2 ^ 7 := Nat.pow_le_pow_right (by decide) hk
  have hy2 : y * 2 ^ k ≤ 1 * 2 ^ k := Nat.mul_le_mul_right _ (by omega)
  have h := u8_or_nat x (y * 2 ^ k) (by omega) (by omega)
  have e : x ||| y * 2 ^ k = x + y * 2 ^ k := by
    rw [Nat.or_comm, Nat.mul_comm, ← Nat.two_pow_add_eq_or_of_lt hx, Nat.add_comm]
  rw [e] at h
  rw [← h]; simp
theorem arr32_size : (Tryz.prog.info? 48).map (·.size) = some 32 := by kernel_rfl
theorem b8_one (l : List Nat) : ∀ v ∈ b8 l, v.oneCell' = true := by
  intro v hv
  obtain ⟨b, _, rfl⟩ := List.mem_map.1 hv
  rfl
theorem limbs_digs {s : List Nat} (hl : s.length = 5) (hs : ∀ d ∈ s, d < 2 ^ 51) : s = digs 51 5 (lv s) := by
  refine lv_inj _ _ (by rw [hl, digs_length]) hs (digs_lt _ _ _) ?_
  have h := lv_lt hs
  rw [hl] at h
  rw [lv_digs, Nat.mod_eq_of_lt h]
/-- an array of bytes as a value -/
def ag (l : List UInt8) : Value := .agg (bvals l).toArray

set_option maxHeartbeats 4000000 in
set_option maxRecDepth 100000 in
theorem el_bytes_ok (a : List Nat) (w : World) (hl : a.length = 5) (ha : ∀ d ∈ a, d < 2 ^ 52) :
    Calls Tryz.prog 42 #[ev a] w fun e w' => e = .returned (ag (leBytes (lv a % pP) 32)) ∧ Below w.heap.size w w' := by
  have HL := Lib.hid hl
  have HA := Lib.hid ha
  obtain ⟨g1, g2, g3⟩ := leastN_ok a hl ha
  have HX : Hid (lv a % pP = lv (leastN a)) := g3.symm
  have SD := Lib.hid (limbs_digs g1 g2)
  have LS := Lib.hid g1
  have S51 := Lib.hid g2
  have HXL : Hid (lv (leastN a) < 2 ^ 255) := by
    have h := lv_lt g2
    rw [g1] at h
    exact h
  clear hl ha g1 g2 g3
  show Calls _ _ #[.agg (uvals a).toArray] _ _
  go_enter Tryz.func42, Tryz.ntmps42
  go_upto_region 1 with fail
  refine wp_gen (fun w0 => Hid (Blk w0 w.heap.size 70 (uvals a)) ∧ Hid (Blk w0 (w.heap.size + 1) 48 (b8 (digs 8 32 0))) ∧ Below w.heap.size w w0) ⟨((Blk.new w _ (uvals a)).alloc _), by rw [← b8_zero]; exact (Blk.new2 _ _ _ _), below2 _ _ _⟩ ?_
  rintro w0 ⟨P0, P1, BB⟩
  go_wp2_with (refine load_el P0 HL rfl rfl rfl ?_)
  refine (el_least_ok a w0 HL.out HA.out).mono ?_
  rintro e w1 ⟨rfl, b1⟩
  unfold ev
  generalize leastN a = s at *
  have Q0 := Lib.hid (P0.out.below b1 P0.out.lt)
  have Q1 := Lib.hid (P1.out.below b1 P1.out.lt)
  have QB := BB.trans (b1.mono BB.size)
  clear P0 P1 BB b1
  obtain ⟨bo, hbo⟩ : ∃ bo, bo = w1.heap.size := ⟨_, rfl⟩
  have hbo3 : w.heap.size + 1 < bo := by rw [hbo]; exact Q1.out.lt
  go_upto_region 3 with (refine store_el Q0 HL LS rfl rfl rfl rfl ?_)
  rw [← hbo]
  refine wp_gen (fun w2 => Hid (Blk w2 w.heap.size 70 (uvals s)) ∧ Hid (Blk w2 (w.heap.size + 1) 48 (b8 (digs 8 32 0))) ∧ Hid (Blk w2 bo 48 (b8 (digs 8 32 (lv s % 2 ^ 0)))) ∧ Below w.heap.size w w2) ⟨(Q0.out.setRow _).alloc _, (Q1.out.farRow (by omega) _).alloc _, ?_, (below_row QB _ _ (Nat.le_refl _)).alloc (by have := QB.size; simpa using this) _⟩ ?_
  · rw [Nat.pow_zero, Nat.mod_one, ← b8_zero, hbo, show w1.heap.size = (w1.setRow w.heap.size (uvals s).toArray).heap.size by simp]
    exact Blk.new _ _ _
  rintro w2 ⟨R0, R1, R2, RB⟩
  clear Q0 Q1 QB hbo
  go_wp2_with fail
  go_loopw [7] (fun vi wr => ∃ t : Nat, t ≤ 255 ∧ vi = .int .i64 t ∧ Hid (Blk wr w.heap.size 70 (uvals s)) ∧ Hid (Blk wr (w.heap.size + 1) 48 (b8 (digs 8 32 0))) ∧ Hid (Blk wr bo 48 (b8 (digs 8 32 (lv s % 2 ^ t)))) ∧ Below w.heap.size w wr) (fun vi _ => 255 - (intOf vi).toNat)
  case atStart => exact ⟨0, by omega, rfl, R0, R1, R2, RB⟩
  case round =>
    clear R0 R1 R2 RB
    obtain ⟨t, ht, rfl, q0, q1, q2, qb⟩ := hrel
    by_cases hgo : t < 255
    · obtain ⟨D1, D2⟩ := digs_bit 8 32 (lv s % 2 ^ t) (lv s / 2 ^ t % 2) t (by omega) (Nat.mod_lt _ (Nat.pow_pos (by decide))) (by omega) (by omega)
      rw [mod_next] at D1
      have c2 := q2.out.b8cell (t / 8) (by rw [digs_length]; omega)
      have f2 := q2.out.free (t / 8)
      have c0 := q0.out.ucell (t / 51) (by rw [LS.out]; omega)
      have hb2 : lv s / 2 ^ t % 2 < 2 := Nat.mod_lt _ (by omega)
      have h51 : t % 51 < 51 := Nat.mod_lt _ (by omega)
      have h8 : t % 8 < 8 := Nat.mod_lt _ (by omega)
      have hor := u8_or_low ((digs 8 32 (lv s % 2 ^ t)).getD (t / 8) 0) (lv s / 2 ^ t % 2) (t % 8) D2 (by omega) hb2
      have hx : s.getD (t / 51) 0 < 2251799813685248 := mem_lt (by decide) S51.out _
      have hat := digs_at 51 5 (lv s) t (by omega) (by omega)
      rw [← SD.out] at hat
      have hand : bits .and .u64 (((s.getD (t / 51) 0 : Nat) : Int) / 2 ^ (t % 51)) 1 = ((lv s / 2 ^ t % 2 : Nat) : Int) := by
        have h := bits_and_u64_nat (s.getD (t / 51) 0 / 2 ^ (t % 51)) 1 (Nat.lt_of_le_of_lt (Nat.div_le_self ..) (by omega)) (by omega)
        rw [Nat.and_one_is_mod, hat, Int.natCast_ediv, Int.natCast_pow] at h
        exact h
      have hwr : (((lv s / 2 ^ t % 2 : Nat) : Int) * 2 ^ (t % 8)) % 256 = ((lv s / 2 ^ t % 2 : Nat) : Int) * 2 ^ (t % 8) := by
        have hp : 2 ^ (t % 8) ≤ 2 ^ 7 := Nat.pow_le_pow_right (by decide) (by omega)
        have hq : lv s / 2 ^ t % 2 * 2 ^ (t % 8) ≤ 1 * 2 ^ (t % 8) := Nat.mul_le_mul_right _ (by omega)
        have e : ((lv s / 2 ^ t % 2 : Nat) : Int) * 2 ^ (t % 8) = ((lv s / 2 ^ t % 2 * 2 ^ (t % 8) : Nat) : Int) := by simp
        rw [e]
        omega
      have N2 := Lib.hid (q2.out.b8set (t / 8) ((digs 8 32 (lv s % 2 ^ t)).getD (t / 8) 0 + lv s / 2 ^ t % 2 * 2 ^ (t % 8)))
      rw [D1] at N2
      have hx8 : (digs 8 32 (lv s % 2 ^ t)).getD (t / 8) 0 < 256 := by
        have : 2 ^ (t % 8) ≤ 2 ^ 8 := Nat.pow_le_pow_right (by decide) (by omega)
        omega
      generalize (digs 8 32 (lv s % 2 ^ t)).getD (t / 8) 0 = x at *
      generalize lv s / 2 ^ t % 2 = bt at *
      generalize s.getD (t / 51) 0 = y at *
      have M0 := Lib.hid ((q0.out.far (show w.heap.size ≠ bo by omega) (t / 8) (.int .u8 (x + bt * 2 ^ (t % 8) : Nat))).drew 1)
      have M1 := Lib.hid ((q1.out.far (show w.heap.size + 1 ≠ bo by omega) (t / 8) (.int .u8 (x + bt * 2 ^ (t % 8) : Nat))).drew 1)
      have M2 := Lib.hid (N2.out.drew 1)
      have MB := below_drewN (below_set' qb bo (t / 8) (.int .u8 (x + bt * 2 ^ (t % 8) : Nat)) (by omega)) 1
      generalize x + bt * 2 ^ (t % 8) = z at *
      clear D1 D2 hat N2 q0 q1 q2 qb
      go_wp2_with fail
      (refine still_tail 19 (by kernel_rfl) (by kernel_rfl) ?_; simp only [List.take_succ_cons, List.take_zero, List.drop_succ_cons, List.drop_zero]; repeat (refine wpStill_step (fun K hK => ?_); go_simp; (try go_ints); (try simp only [↓IntWalk.iteOmega, true_and]); (with_reducible apply hK); clear hK K)); refine wpStill_nil ?_
      go_wp2_with fail
      go_roundw
      case rel => exact ⟨t + 1, by omega, by go_num, M0, M1, M2, MB⟩
      case measure => simp [intOf]; omega
    · obtain rfl : t = 255 := by omega
      rw [Nat.mod_eq_of_lt HXL.out] at q2
      have L2 : Hid ((b8 (digs 8 32 (lv s))).length = 32) := by show _ = _; rw [b8_len, digs_length]
      have L1 : Hid ((b8 (digs 8 32 0)).length = 32) := by show _ = _; rw [b8_len, digs_length]
      have EE : Hid ((Value.agg (b8 (digs 8 32 (lv s))).toArray) = ag (leBytes (lv a % pP) 32)) := by show _ = _; rw [b8_le, HX.out]; rfl
      have O2 := Lib.hid (b8_one (digs 8 32 (lv s)))
      generalize b8 (digs 8 32 (lv s)) = l at *
      go_wp2_with (first | refine load_blk q2.out Tryz.underlying48 rfl arr32_size L2.out rfl rfl rfl ?_ | refine store_blk q1.out arr32_size L2.out L1.out O2.out rfl rfl rfl rfl ?_)
      exact ret_blk rfl (q1.out.setRow _) Tryz.underlying48 rfl arr32_size L2.out rfl rfl ⟨by rw [EE.out], below_row qb _ _ (by omega)⟩
end Go.Proofs.YtkhdhiddhnmdkaaGreatDoor

namespace Go.Proofs.YtkhdhiddhnmdkaaGreatDoor
open Go.RowKit

abbrev tE : TypeId := 70
theorem Blk.past {w0 w5 : World} {b c : Nat} {t : TypeId} {cs : List Value} (h : Blk w0 b t cs) (hb : Below w0.heap.size w0 w5) (hc : c = w5.heap.size) (o : Obj) (r : Array Value) : Blk ((w5.alloc o).setRow c r) b t cs := by
  have h1 := h.below hb h.lt
  exact (h1.alloc o).farRow (by have := h1.lt; omega) r
theorem Blk.fresh {w5 : World} {c : Nat} (hc : c = w5.heap.size) (o : List Nat) (l : List Nat) (t : TypeId) : Blk ((w5.alloc (.cells (uvals o).toArray t)).setRow c (uvals l).toArray) c t (uvals l) := by
  rw [hc]; exact (Blk.new w5 t (uvals o)).setRow _
theorem below_past {w w0 w5 : World} {c : Nat} (h : Below w.heap.size w w0) (hb : Below w0.heap.size w0 w5) (hc : c = w5.heap.size) (o : Obj) (r : Array Value) : Below w.heap.size w ((w5.alloc o).setRow c r).drew := by
  have h1 := h.trans (hb.mono h.size)
  exact below_drewN (below_row (h1.alloc h1.size o) _ _ (by rw [hc]; exact h1.size)) 1
theorem Lm.keep {a : List Nat} {x : Nat} (h : Lm a x) : Lm a (lv a % pP) := h.own
set_option maxHeartbeats 1000000 in
set_option maxRecDepth 100000 in
theorem el_invert_ok (a : List Nat) (w : World) (ha : Lm a (lv a % pP)) :
    Calls Tryz.prog 41 #[ev a] w fun e w' => e = .returned (ev (invN a)) ∧ Below w.heap.size w w' := by
  have HA := Lib.hid ha
  have HL := Lib.hid ha.len
  have L5 : Hid ((invN a).length = 5) := (ha.pow (expN 21) (expN_lt 21 (by omega)) 255 (Nat.le_refl _)).len
  clear ha
  show Calls _ _ #[.agg (uvals a).toArray] _ _
  go_enter Tryz.func41, Tryz.ntmps41
  go_upto_region 1 with fail
  refine wp_gen (fun w0 => Hid (Blk w0 w.heap.size tE (uvals a)) ∧ Hid (Blk w0 (w.heap.size + 1) tE (uvals zero5)) ∧ Below w.heap.size w w0) ⟨((Blk.new w _ (uvals a)).alloc _), (Blk.new2 _ _ _ (uvals zero5)), below2 _ _ _⟩ ?_
  rintro w0 ⟨P0, P1, BB⟩
  go_wp2_with (refine load_el P0 HL rfl rfl rfl ?_)
  have hc : Calls Tryz.prog 73 #[ev a, .int .u64 21, .int .i64 0] w0 fun e w' => e = .returned (ev (invN a)) ∧ Below w0.heap.size w0 w' := el_power_ok a 21 0 w0 HA.out (by omega) (by omega) (by omega)
  refine hc.mono ?_
  rintro e w1 ⟨rfl, b1⟩
  unfold ev
  have Z := Lib.hid (P1.out.below b1 P1.out.lt)
  have BZ := BB.trans (b1.mono BB.size)
  go_wp2_with (refine store_el Z hz5 L5 rfl rfl rfl rfl ?_)
  exact ret_el rfl (Z.out.setRow _) L5.out rfl rfl ⟨rfl, below_row BZ _ _ (by omega)⟩

theorem neg_len {a : List Nat} (h : a.length = 5) : (negN a).length = 5 := carryN_len _ (by
  show (subL (addL zero5 twoP) (carryN a)).length = 5
  simp [subL, addL_len (show zero5.length = 5 from rfl) (show twoP.length = 5 from rfl), carryN_len a h])
theorem even_eq (a : List Nat) : (if oddN a then negN a else a) = evenN a := rfl
set_option maxHeartbeats 1000000 in
set_option maxRecDepth 100000 in
theorem el_m1_ok (w : World) :
    Calls Tryz.prog 107 #[] w fun e w' => e = .returned (ev m1N) ∧ Below w.heap.size w w' := by
  have HS := Lib.hid (Lm.smallN 2 (by decide))
  have HR := Lib.hid (HS.out.pow (expN 20) (expN_lt 20 (by omega)) 253 (by omega))
  have LR := Lib.hid HR.out.len
  have SR := Lib.hid HR.out.small
  have LN := Lib.hid (neg_len LR.out)
  have LM : Hid (m1N.length = 5) := HR.out.even.len
  have EM : Hid (m1N = evenN (pwN (smallN 2) (expN 20) 253)) := rfl
  go_enter Tryz.func107, Tryz.ntmps107
  go_upto_region 1 with fail
  refine wp_gen (fun w0 => Hid (Blk w0 w.heap.size tE (uvals zero5)) ∧ Below w.heap.size w w0) ⟨Blk.new w _ (uvals zero5), below1 _ _⟩ ?_
  rintro w0 ⟨P0, BB⟩
  go_wp2_with fail
  have hc : Calls Tryz.prog 37 #[.int .u64 2] w0 fun e w' => e = .returned (ev (smallN 2)) ∧ Below w0.heap.size w0 w' := el_small_ok 2 w0 (by decide)
  refine hc.mono ?_
  rintro e w1 ⟨rfl, b1⟩
  go_wp2_with fail
  have hc2 : Calls Tryz.prog 73 #[ev (smallN 2), .int .u64 20, .int .i64 2] w1 fun e w' => e = .returned (ev (pwN (smallN 2) (expN 20) 253)) ∧ Below w1.heap.size w1 w' := el_power_ok (smallN 2) 20 2 w1 HS.out.own (by omega) (by omega) (by omega)
  refine hc2.mono ?_
  rintro e w2 ⟨rfl, b2⟩
  generalize pwN (smallN 2) (expN 20) 253 = r at *
  have b3 := b1.trans (b2.mono b1.size)
  have NW := Lib.hid (Blk.new w2 tE (uvals zero5))
  clear hc hc2 b1 b2
  unfold ev
  go_upto_region 2 with (refine store_el NW hz5 LR rfl rfl rfl rfl ?_)
  obtain ⟨b6, hb6⟩ : ∃ b6, b6 = w2.heap.size := ⟨_, rfl⟩
  rw [← hb6]
  refine wp_gen (fun w3 => Hid (Blk w3.drew w.heap.size tE (uvals zero5)) ∧ Hid (Blk w3.drew b6 tE (uvals r)) ∧ Below w.heap.size w w3.drew ∧ w.heap.size < b6) ⟨Lib.hid (P0.out.past b3 hb6 _ _), Lib.hid (Blk.fresh hb6 zero5 r _), below_past BB b3 hb6 _ _, by have := P0.out.lt; have := b3.size; omega⟩ ?_
  rintro w3 ⟨Q0, Q1, QB, hlt⟩
  clear P0 BB b3 NW hb6
  (refine wp_region_quiet_tail (C := fun w' => Below w3.drew.heap.size w3.drew w') 6 (by kernel_rfl) (by kernel_rfl) (Below.refl _ _) ?_; simp only [List.take_succ_cons, List.take_zero, List.drop_succ_cons, List.drop_zero])
  ((with_reducible refine wpQuiet_step (fun K hK => ?_)); refine quiet_loadE (fun w' hw' => Q1.out.below hw' Q1.out.lt) LR.out (by first | rfl | simp [Region.wanted, yielded]) rfl (by go_simp) ?_; go_simp; (with_reducible apply hK); clear hK K)
  ((with_reducible refine wpQuiet_step (fun K hK => ?_)); refine quiet_callG (.bool (oddN r)) 65 #[.agg (uvals r).toArray] (by first | rfl | simp [Region.wanted, yielded]) (fun w' => by go_simp) (fun w' hw' => (el_odd_ok r w' LR.out SR.out).mono (by rintro e w'' ⟨rfl, hb⟩; exact ⟨rfl, hw'.trans (hb.mono hw'.size)⟩)) ?_; go_simp; (with_reducible apply hK); clear hK K)
  ((with_reducible refine wpQuiet_step (fun K hK => ?_)); refine quiet_loadE (fun w' hw' => Q1.out.below hw' Q1.out.lt) LR.out (by first | rfl | simp [Region.wanted, yielded]) rfl (by go_simp) ?_; go_simp; (with_reducible apply hK); clear hK K)
  ((with_reducible refine wpQuiet_step (fun K hK => ?_)); refine quiet_callG (.agg (uvals (negN r)).toArray) 57 #[.agg (uvals r).toArray] (by first | rfl | simp [Region.wanted, yielded]) (fun w' => by go_simp) (fun w' hw' => (el_neg_ok r w' LR.out SR.out).mono (by rintro e w'' ⟨rfl, hb⟩; exact ⟨rfl, hw'.trans (hb.mono hw'.size)⟩)) ?_; go_simp; (with_reducible apply hK); clear hK K)
  ((with_reducible refine wpQuiet_step (fun K hK => ?_)); refine quiet_loadE (fun w' hw' => Q1.out.below hw' Q1.out.lt) LR.out (by first | rfl | simp [Region.wanted, yielded]) rfl (by go_simp) ?_; go_simp; (with_reducible apply hK); clear hK K)
  ((with_reducible refine wpQuiet_step (fun K hK => ?_)); refine quiet_callG (.agg (uvals (evenN r)).toArray) 66 #[.bool (oddN r), .agg (uvals (negN r)).toArray, .agg (uvals r).toArray] (by first | rfl | simp [Region.wanted, yielded]) (fun w' => by go_simp) (fun w' hw' => (el_choose_ok (oddN r) (negN r) r w' LN.out LR.out).mono (by rintro e w'' ⟨rfl, hb⟩; exact ⟨rfl, hw'.trans (hb.mono hw'.size)⟩)) ?_; go_simp; (with_reducible apply hK); clear hK K)
  refine wpQuiet_nil ?_
  intro w5 hw5
  have Z := Lib.hid (Q0.out.below hw5 Q0.out.lt)
  have BZ := QB.trans (Below.mono hw5 QB.size)
  rw [EM.out] at LM
  go_wp2_with (refine store_el Z hz5 LM rfl rfl rfl rfl ?_)
  exact ret_el rfl (Z.out.setRow _) LM.out rfl rfl ⟨by rw [EM.out], below_row BZ _ _ (Nat.le_refl _)⟩
end Go.Proofs.YtkhdhiddhnmdkaaGreatDoor

namespace Go.Proofs.YtkhdhiddhnmdkaaGreatDoor
open Go.RowKit

theorem drift_loadE {ops : Array Oper} {w0 : World} {a : Act} {o : Oper} {K : Act → Prop} {b : Nat} {x : Operand} {l : List Nat} {t : TypeId} (hb : ∀ w, Rw w0 w → Blk w b t (uvals l)) (hl : l.length = 5)
    (hg : Region.wanted o (yielded ops a.tmps) = true) (ho : o.op = .load 70 x) (hx : a.eval x = .pointer (some ⟨b, 0, none⟩)) (h : K (a.put o.dst (.agg (uvals l).toArray))) :
    if Region.wanted o (yielded ops a.tmps) then ∃ v, (∀ w, Rw w0 w → o.quietAt Tryz.prog a (Rw w) w v) ∧ K (a.put o.dst v) else K (a.put o.dst undef) :=
  drift_load hb Tryz.underlying70 rfl elem_size (len5 hl) hg ho hx h
theorem run_alloc_el (w : World) : (Instr.alloc tE true (.tuple #[])).run Tryz.prog w = .ok (.pointer (some ⟨w.heap.size, 0, none⟩)) (w.alloc (.cells (uvals zero5).toArray tE)) := by kernel_rfl
/-- a new variable, and its value -/
theorem drift_new {ops : Array Oper} {w0 : World} {K : Act → World → Prop} {oa os : Oper} {a : Act} {d : Tmp} {y : Operand} {l : List Nat} (ha : oa.op = .alloc tE) (hga : oa.guard = none) (hd : oa.dst = some d)
    (hs : os.op = .store tE (.tmp d) y) (hgs : os.guard = none) (hds : os.dst = none) (hdt : d < a.tmps.size) (hl : l.length = 5) (hy : ∀ v, (a.put (some d) v).eval y = .agg (uvals l).toArray)
    (h : ∀ c w2, w0.heap.size ≤ c → Below w0.heap.size w0 w2 → Blk w2 c tE (uvals l) → K (a.put (some d) (.pointer (some ⟨c, 0, none⟩))) w2) : wpListD Tryz.prog ops w0 K [oa, os] a w0 := by
  refine driftT_step (fun w1 h1 Q' hQ' => ?_)
  have hz1 : w0.heap.size ≤ w1.heap.size := h1.size
  have hW : Below w0.heap.size w0 (w1.alloc (.cells (uvals zero5).toArray tE)) := Below.alloc h1 hz1 _
  refine wpList_plain hga fun K1 hK1 => ?_
  unfold Oper.wp execOp
  simp only [ha, Sem.run_bind, run_alloc_el w1, Result.andThen_ok, Sem.run_pure, Oper.upon]
  refine hK1 _ _ (hQ' _ _ hW ?_)
  rw [hd]
  refine driftT_step (fun w3 h3 Q2 hQ2 => ?_)
  have hb : Blk w3 w1.heap.size tE (uvals zero5) := (Blk.new w1 tE (uvals zero5)).below h3 (by simp)
  have hW3 : Below w0.heap.size w0 w3 := Rw.trans hW h3
  refine store_blk (n := 5) (t := tE) (b := w1.heap.size) (old := uvals zero5) (cs := uvals l) hb elem_size (len5 hl) rfl (uvals_one l) hgs hs ?_ (hy _) ?_
  · show (a.put (some d) _).tmps.getD d undef = _
    simp [Act.put, hdt]
  · refine hQ2 _ _ (below_row hW3 _ _ hz1) ?_
    rw [hds]
    intro w4 h4
    have hb4 := hb.setRow (uvals l)
    have hW4 := Rw.trans (show Rw w0 (w3.setRow w1.heap.size (uvals l).toArray) from below_row hW3 _ _ hz1) h4
    exact h w1.heap.size w4 hz1 hW4 (hb4.below h4 hb4.lt)
end Go.Proofs.YtkhdhiddhnmdkaaGreatDoor
