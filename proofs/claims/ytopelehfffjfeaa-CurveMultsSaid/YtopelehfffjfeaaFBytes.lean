/-
The bytes of the field's elements.
-/
import Derived.Test.YtopelehfffjfeaaFOf
namespace Go.Proofs.Ytopelehfffjfeaa
open Go.RowKit

def b8 (l : List Nat) : List Value := l.map fun d => Value.int .u8 (d : Nat)
theorem b8_get (l : List Nat) (i : Nat) (h : i < l.length) : (b8 l)[i]? = some (.int .u8 (l.getD i 0 : Nat)) := by simp [b8, h]
theorem b8_len (l : List Nat) : (b8 l).length = l.length := by simp [b8]
theorem Blk.b8set {w : World} {b : Nat} {t : TypeId} {l : List Nat} (h : Blk w b t (b8 l)) (i d : Nat) : Blk (w.setCell ⟨b, i, none⟩ (.int .u8 (d : Nat))) b t (b8 (l.set i d)) := by
  have := h.set i (.int .u8 (d : Nat))
  have e : (b8 l).set i (.int .u8 (d : Nat)) = b8 (l.set i d) := by simp [b8, List.map_set]
  rwa [e] at this
theorem Blk.b8cell {w : World} {b : Nat} {t : TypeId} {l : List Nat} (h : Blk w b t (b8 l)) (i : Nat) (hi : i < l.length) : w.cell? ⟨b, i, none⟩ = some (.int .u8 (l.getD i 0 : Nat)) := h.cell i _ (b8_get l i hi)
theorem b8_le (N : Nat) : b8 (digs 8 32 N) = bvals (leBytes N 32) := by
  unfold b8 bvals digs leBytes
  rw [List.map_map, List.map_map]
  apply List.map_congr_left
  intro j _
  simp only [Function.comp]
  rw [u8_of, Nat.pow_mul]
theorem b8_zero : (b8 (digs 8 32 0)).toArray = #[.int .u8 0, .int .u8 0, .int .u8 0, .int .u8 0, .int .u8 0, .int .u8 0, .int .u8 0, .int .u8 0, .int .u8 0, .int .u8 0, .int .u8 0, .int .u8 0, .int .u8 0, .int .u8 0, .int .u8 0, .int .u8 0, .int .u8 0, .int .u8 0, .int .u8 0, .int .u8 0, .int .u8 0, .int .u8 0, .int .u8 0, .int .u8 0, .int .u8 0, .int .u8 0, .int .u8 0, .int .u8 0, .int .u8 0, .int .u8 0, .int .u8 0, .int .u8 0] := by
  rw [digs_zero]; rfl
theorem u8_or_low (x y k : Nat) (hx : x < 2 ^ k) (hk : k ≤ 7) (hy : y < 2) : bits .or .u8 (x : Int) ((y : Int) * 2 ^ k) = ((x + y * 2 ^ k : Nat) : Int) := by
  have hp : 2 ^ k ≤ 2 ^ 7 := Nat.pow_le_pow_right (by decide) hk
  have hy2 : y * 2 ^ k ≤ 1 * 2 ^ k := Nat.mul_le_mul_right _ (by omega)
  have h := u8_or_nat x (y * 2 ^ k) (by omega) (by omega)
  have e : x ||| y * 2 ^ k = x + y * 2 ^ k := by
    rw [Nat.or_comm, Nat.mul_comm, ← Nat.two_pow_add_eq_or_of_lt hx, Nat.add_comm]
  rw [e] at h
  rw [← h]; simp
theorem arr32_size : (Try.prog.info? 55).map (·.size) = some 32 := by kernel_rfl
theorem b8_one (l : List Nat) : ∀ v ∈ b8 l, v.oneCell' = true := by
  intro v hv
  obtain ⟨b, _, rfl⟩ := List.mem_map.1 hv
  rfl
theorem limbs_digs {s : List Nat} (hl : s.length = 5) (hs : ∀ d ∈ s, d < 2 ^ 51) : s = digs 51 5 (lv s) := by
  refine lv_inj _ _ (by rw [hl, digs_length]) hs (digs_lt _ _ _) ?_
  have h := lv_lt hs
  rw [hl] at h
  rw [lv_digs, Nat.mod_eq_of_lt h]
/-- an array of bytes as a value -/
def ag (l : List UInt8) : Value := .agg (bvals l).toArray

set_option maxHeartbeats 4000000 in
set_option maxRecDepth 100000 in
theorem el_bytes_ok (a : List Nat) (w : World) (hl : a.length = 5) (ha : ∀ d ∈ a, d < 2 ^ 52) :
    Calls Try.prog 43 #[ev a] w fun e w' => e = .returned (ag (leBytes (lv a % pP) 32)) ∧ Below w.heap.size w w' := by
  have HL := Lib.hid hl
  have HA := Lib.hid ha
  obtain ⟨g1, g2, g3⟩ := leastN_ok a hl ha
  have HX : Hid (lv a % pP = lv (leastN a)) := g3.symm
  have SD := Lib.hid (limbs_digs g1 g2)
  have LS := Lib.hid g1
  have S51 := Lib.hid g2
  have HXL : Hid (lv (leastN a) < 2 ^ 255) := by
    have h := lv_lt g2
    rw [g1] at h
    exact h
  clear hl ha g1 g2 g3
  show Calls _ _ #[.agg (uvals a).toArray] _ _
  go_enter Try.func43, Try.ntmps43
  go_upto_region 1 with fail
  refine wp_gen (fun w0 => Hid (Blk w0 w.heap.size 29 (uvals a)) ∧ Hid (Blk w0 (w.heap.size + 1) 55 (b8 (digs 8 32 0))) ∧ Below w.heap.size w w0) ⟨((Blk.new w _ (uvals a)).alloc _), by rw [← b8_zero]; exact (Blk.new2 _ _ _ _), below2 _ _ _⟩ ?_
  rintro w0 ⟨P0, P1, BB⟩
  go_wp2_with (refine load_el P0 HL rfl rfl rfl ?_)
  refine (el_least_ok a w0 HL.out HA.out).mono ?_
  rintro e w1 ⟨rfl, b1⟩
  unfold ev
  generalize leastN a = s at *
  have Q0 := Lib.hid (P0.out.below b1 P0.out.lt)
  have Q1 := Lib.hid (P1.out.below b1 P1.out.lt)
  have QB := BB.trans (b1.mono BB.size)
  clear P0 P1 BB b1
  obtain ⟨bo, hbo⟩ : ∃ bo, bo = w1.heap.size := ⟨_, rfl⟩
  have hbo3 : w.heap.size + 1 < bo := by rw [hbo]; exact Q1.out.lt
  go_upto_region 3 with (refine store_el Q0 HL LS rfl rfl rfl rfl ?_)
  rw [← hbo]
  refine wp_gen (fun w2 => Hid (Blk w2 w.heap.size 29 (uvals s)) ∧ Hid (Blk w2 (w.heap.size + 1) 55 (b8 (digs 8 32 0))) ∧ Hid (Blk w2 bo 55 (b8 (digs 8 32 (lv s % 2 ^ 0)))) ∧ Below w.heap.size w w2) ⟨(Q0.out.setRow _).alloc _, (Q1.out.farRow (by omega) _).alloc _, ?_, (below_row QB _ _ (Nat.le_refl _)).alloc (by have := QB.size; simpa using this) _⟩ ?_
  · rw [Nat.pow_zero, Nat.mod_one, ← b8_zero, hbo, show w1.heap.size = (w1.setRow w.heap.size (uvals s).toArray).heap.size by simp]
    exact Blk.new _ _ _
  rintro w2 ⟨R0, R1, R2, RB⟩
  clear Q0 Q1 QB hbo
  go_wp2_with fail
  go_loopw [7] (fun vi wr => ∃ t : Nat, t ≤ 255 ∧ vi = .int .i64 t ∧ Hid (Blk wr w.heap.size 29 (uvals s)) ∧ Hid (Blk wr (w.heap.size + 1) 55 (b8 (digs 8 32 0))) ∧ Hid (Blk wr bo 55 (b8 (digs 8 32 (lv s % 2 ^ t)))) ∧ Below w.heap.size w wr) (fun vi _ => 255 - (intOf vi).toNat)
  case atStart => exact ⟨0, by omega, rfl, R0, R1, R2, RB⟩
  case round =>
    clear R0 R1 R2 RB
    obtain ⟨t, ht, rfl, q0, q1, q2, qb⟩ := hrel
    by_cases hgo : t < 255
    · obtain ⟨D1, D2⟩ := digs_bit 8 32 (lv s % 2 ^ t) (lv s / 2 ^ t % 2) t (by omega) (Nat.mod_lt _ (Nat.pow_pos (by decide))) (by omega) (by omega)
      rw [mod_next] at D1
      have c2 := q2.out.b8cell (t / 8) (by rw [digs_length]; omega)
      have f2 := q2.out.free (t / 8)
      have c0 := q0.out.ucell (t / 51) (by rw [LS.out]; omega)
      have hb2 : lv s / 2 ^ t % 2 < 2 := Nat.mod_lt _ (by omega)
      have h51 : t % 51 < 51 := Nat.mod_lt _ (by omega)
      have h8 : t % 8 < 8 := Nat.mod_lt _ (by omega)
      have hor := u8_or_low ((digs 8 32 (lv s % 2 ^ t)).getD (t / 8) 0) (lv s / 2 ^ t % 2) (t % 8) D2 (by omega) hb2
      have hx : s.getD (t / 51) 0 < 2251799813685248 := mem_lt (by decide) S51.out _
      have hat := digs_at 51 5 (lv s) t (by omega) (by omega)
      rw [← SD.out] at hat
      have hand : bits .and .u64 (((s.getD (t / 51) 0 : Nat) : Int) / 2 ^ (t % 51)) 1 = ((lv s / 2 ^ t % 2 : Nat) : Int) := by
        have h := bits_and_u64_nat (s.getD (t / 51) 0 / 2 ^ (t % 51)) 1 (Nat.lt_of_le_of_lt (Nat.div_le_self ..) (by omega)) (by omega)
        rw [Nat.and_one_is_mod, hat, Int.natCast_ediv, Int.natCast_pow] at h
        exact h
      have hwr : (((lv s / 2 ^ t % 2 : Nat) : Int) * 2 ^ (t % 8)) % 256 = ((lv s / 2 ^ t % 2 : Nat) : Int) * 2 ^ (t % 8) := by
        have hp : 2 ^ (t % 8) ≤ 2 ^ 7 := Nat.pow_le_pow_right (by decide) (by omega)
        have hq : lv s / 2 ^ t % 2 * 2 ^ (t % 8) ≤ 1 * 2 ^ (t % 8) := Nat.mul_le_mul_right _ (by omega)
        have e : ((lv s / 2 ^ t % 2 : Nat) : Int) * 2 ^ (t % 8) = ((lv s / 2 ^ t % 2 * 2 ^ (t % 8) : Nat) : Int) := by simp
        rw [e]
        omega
      have N2 := Lib.hid (q2.out.b8set (t / 8) ((digs 8 32 (lv s % 2 ^ t)).getD (t / 8) 0 + lv s / 2 ^ t % 2 * 2 ^ (t % 8)))
      rw [D1] at N2
      have hx8 : (digs 8 32 (lv s % 2 ^ t)).getD (t / 8) 0 < 256 := by
        have : 2 ^ (t % 8) ≤ 2 ^ 8 := Nat.pow_le_pow_right (by decide) (by omega)
        omega
      generalize (digs 8 32 (lv s % 2 ^ t)).getD (t / 8) 0 = x at *
      generalize lv s / 2 ^ t % 2 = bt at *
      generalize s.getD (t / 51) 0 = y at *
      have M0 := Lib.hid ((q0.out.far (show w.heap.size ≠ bo by omega) (t / 8) (.int .u8 (x + bt * 2 ^ (t % 8) : Nat))).drew 1)
      have M1 := Lib.hid ((q1.out.far (show w.heap.size + 1 ≠ bo by omega) (t / 8) (.int .u8 (x + bt * 2 ^ (t % 8) : Nat))).drew 1)
      have M2 := Lib.hid (N2.out.drew 1)
      have MB := below_drewN (below_set' qb bo (t / 8) (.int .u8 (x + bt * 2 ^ (t % 8) : Nat)) (by omega)) 1
      generalize x + bt * 2 ^ (t % 8) = z at *
      clear D1 D2 hat N2 q0 q1 q2 qb
      go_wp2_with fail
      (refine still_tail 19 (by kernel_rfl) (by kernel_rfl) ?_; simp only [List.take_succ_cons, List.take_zero, List.drop_succ_cons, List.drop_zero]; repeat (refine wpStill_step (fun K hK => ?_); go_simp; (try go_ints); (try simp only [↓IntWalk.iteOmega, true_and]); (with_reducible apply hK); clear hK K)); refine wpStill_nil ?_
      go_wp2_with fail
      go_roundw
      case rel => exact ⟨t + 1, by omega, by go_num, M0, M1, M2, MB⟩
      case measure => simp [intOf]; omega
    · obtain rfl : t = 255 := by omega
      rw [Nat.mod_eq_of_lt HXL.out] at q2
      have L2 : Hid ((b8 (digs 8 32 (lv s))).length = 32) := by show _ = _; rw [b8_len, digs_length]
      have L1 : Hid ((b8 (digs 8 32 0)).length = 32) := by show _ = _; rw [b8_len, digs_length]
      have EE : Hid ((Value.agg (b8 (digs 8 32 (lv s))).toArray) = ag (leBytes (lv a % pP) 32)) := by show _ = _; rw [b8_le, HX.out]; rfl
      have O2 := Lib.hid (b8_one (digs 8 32 (lv s)))
      generalize b8 (digs 8 32 (lv s)) = l at *
      go_wp2_with (first | refine load_blk q2.out Try.underlying55 rfl arr32_size L2.out rfl rfl rfl ?_ | refine store_blk q1.out arr32_size L2.out L1.out O2.out rfl rfl rfl rfl ?_)
      exact ret_blk rfl (q1.out.setRow _) Try.underlying55 rfl arr32_size L2.out rfl rfl ⟨by rw [EE.out], below_row qb _ _ (by omega)⟩
end Go.Proofs.Ytopelehfffjfeaa
