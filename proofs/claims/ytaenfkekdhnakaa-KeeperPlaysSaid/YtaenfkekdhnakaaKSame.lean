/-
The laws' Same: are acts the document's?
-/
import Derived.Test.YtaenfkekdhnakaaKVars
namespace Go.Proofs.Ytaenfkekdhnakaa
open Go.RowKit

theorem avals_get (l : List (Nat × ByteArray)) : ∀ i, i < l.length → (avals l)[i * 2]? = some (.int .i64 ((l.getD i (0, emp)).1 : Nat)) ∧ (avals l)[i * 2 + 1]? = some (.string (l.getD i (0, emp)).2) := by
  induction l with
  | nil => intro i h; cases h
  | cons x l ih =>
    obtain ⟨k, nm⟩ := x
    intro i h
    cases i with
    | zero => exact ⟨rfl, rfl⟩
    | succ i =>
      have := ih i (by simpa using h)
      rw [show (i + 1) * 2 = i * 2 + 1 + 1 by omega]
      exact this
theorem eqAct (p1 q1 : Nat) (p2 q2 : ByteArray) (w : World) :
    (binOp .neq 45 (.agg #[.int .i64 p1, .string p2]) (.agg #[.int .i64 q1, .string q2])).run Try.prog w = .ok (.bool (decide ((p1, p2) ≠ (q1, q2)))) w := by
  have hS : Try.prog.underlying 45 = some (.struct (Try.prog.fieldsOf 45)) := by kernel_rfl
  have hp : Try.prog.stoodInHeld 45 = false := by kernel_rfl
  rw [run_neq_struct, show (10000 : Nat) = 9999 + 1 from rfl, run_equalIn_agg w 9999 45 _ _ hS hp]
  simp only [Program.fieldsOf, Try.underlying45]
  go_simp
  have e1 : ((p1 : Int) = q1) = (p1 = q1) := propext ⟨fun h => by omega, fun h => by omega⟩
  have e2 : (p2.toList = q2.toList) = (p2 = q2) := propext ⟨fun e => ByteArray.ext (Array.ext' (by rw [← ByteArray.toList_eq, ← ByteArray.toList_eq]; exact e)), fun e => by rw [e]⟩
  simp only [e1, e2]
  by_cases h1 : p1 = q1 <;> by_cases h2 : p2 = q2 <;> simp [h1, h2]
set_option maxHeartbeats 4000000 in
set_option maxRecDepth 100000 in
theorem same_ok (l x : List (Nat × ByteArray)) (v u : Value) (w : World) (hl : Sg w 2 v l.length (avals l)) (hx : Sg w 2 u x.length (avals x)) (hll : l.length ≤ 100) (hxl : x.length ≤ 100) :
    Calls Try.prog 16 #[v, u] w fun e w' => e = .returned (.bool (decide (l = x))) ∧ Below w.heap.size w w' := by
  obtain ⟨ao, cap, hv⟩ : ∃ ao cap, v = .slice ao l.length cap := by
    obtain ⟨_, ao, cap, hv, _⟩ := hl
    exact ⟨ao, cap, hv⟩
  obtain ⟨bo, cbp, hu⟩ : ∃ ao cap, u = .slice ao x.length cap := by
    obtain ⟨_, ao, cap, hv, _⟩ := hx
    exact ⟨ao, cap, hv⟩
  by_cases hlen : l.length = x.length
  · obtain ⟨n, hn⟩ : ∃ n, n = l.length := ⟨_, rfl⟩
    rcases Nat.eq_zero_or_pos n with h0 | hpos
    · have hl0 : l = [] := List.eq_nil_of_length_eq_zero (by omega)
      have hx0 : x = [] := List.eq_nil_of_length_eq_zero (by omega)
      subst hl0 hx0 hv hu
      clear hl hx hlen hn h0
      go_enter Try.func16, Try.ntmps16
      go_wp2_with fail
      go_loopw [13] (fun vi wr => vi = .int .i64 0 ∧ w = wr) (fun _ _ => 0)
      case atStart => exact ⟨rfl, rfl⟩
      case round =>
        obtain ⟨rfl, rfl⟩ := hrel
        go_wp2_with fail
        go_ret
        exact ⟨rfl, Below.refl _ _⟩
    · obtain ⟨g, off, cap1, hv1, _, hcm1, _, _, hc1, _⟩ := hl.open (by omega)
      obtain ⟨g2, off2, cap2, hu1, _, hcm2, _, _, hc2, _⟩ := hx.open (by omega)
      subst hv1 hu1
      clear hv hu
      rw [← hlen, ← hn]
      rw [← hlen] at hc2
      rw [← hn] at hc1 hc2
      have C1 := Lib.hid hc1
      have C2 := Lib.hid hc2
      have HN := Lib.hid hn
      have HLEN := Lib.hid hlen
      obtain ⟨d, hd⟩ : ∃ d, d = decide (l = x) := ⟨_, rfl⟩
      rw [← hd]
      have HD := Lib.hid hd
      unfold maxLen at hcm1 hcm2
      have hn100 : n ≤ 100 := by omega
      clear hl hx hc1 hc2 hn hlen hll hxl hd
      go_enter Try.func16, Try.ntmps16
      go_wp2_with fail
      go_loopw [13] (fun vi wr => ∃ i : Nat, vi = .int .i64 i ∧ i ≤ n ∧ Hid (∀ j, j < i → l.getD j (0, emp) = x.getD j (0, emp)) ∧ ∃ k, w.drewN k = wr) (fun vi _ => n - (intOf vi).toNat)
      case atStart => exact ⟨0, rfl, by omega, fun j h => by omega, 0, rfl⟩
      case round =>
        obtain ⟨i, rfl, hi, hE, k, rfl⟩ := hrel
        by_cases hgo : i < n
        · have a1 := avals_get l i (by rw [← HN.out]; exact hgo)
          have a2 := avals_get x i (by rw [← HLEN.out, ← HN.out]; exact hgo)
          have c10 := (C1.out (i * 2) (by omega)).1
          have c11 := (C1.out (i * 2 + 1) (by omega)).1
          have c20 := (C2.out (i * 2) (by omega)).1
          have c21 := (C2.out (i * 2 + 1) (by omega)).1
          rw [a1.1] at c10
          rw [a1.2] at c11
          rw [a2.1] at c20
          rw [a2.2] at c21
          rw [← Nat.add_assoc] at c11 c21
          obtain ⟨p, hp⟩ : ∃ p, p = l.getD i (0, emp) := ⟨_, rfl⟩
          obtain ⟨q, hq⟩ : ∃ q, q = x.getD i (0, emp) := ⟨_, rfl⟩
          rw [← hp] at c10 c11
          rw [← hq] at c20 c21
          have HP := Lib.hid hp
          have HQ := Lib.hid hq
          clear a1 a2 hp hq
          obtain ⟨p1, p2⟩ := p
          obtain ⟨q1, q2⟩ := q
          dsimp only at c10 c11 c20 c21
          by_cases hpq : (p1, p2) = (q1, q2)
          · have hb : ∀ w, (binOp .neq 45 (.agg #[.int .i64 p1, .string p2]) (.agg #[.int .i64 q1, .string q2])).run Try.prog w = .ok (.bool false) w := fun w => by
              rw [eqAct, hpq]; simp
            go_wp2_with fail
            go_quiet (fail)
            go_wp2_with fail
            go_roundw
            case rel =>
              refine ⟨i + 1, by go_num, by omega, Lib.hid fun j h => ?_, _, rfl⟩
              rcases Nat.lt_or_eq_of_le (Nat.le_of_lt_succ h) with h | h
              · exact hE.out j h
              · rw [h, ← HP.out, ← HQ.out, hpq]
            case measure => simp [intOf]; omega
          · have hb : ∀ w, (binOp .neq 45 (.agg #[.int .i64 p1, .string p2]) (.agg #[.int .i64 q1, .string q2])).run Try.prog w = .ok (.bool true) w := fun w => by
              rw [eqAct]; simp [hpq]
            go_wp2_with fail
            go_quiet (fail)
            go_wp2_with fail
            go_ret
            refine ⟨?_, below_drewN (below_drewN (Below.refl _ _) _) _⟩
            rw [HD.out, show decide (l = x) = false from decide_eq_false fun e => hpq (by rw [HP.out, HQ.out, e])]
            rfl
        · obtain rfl : i = n := by omega
          have hd : decide (l = x) = true := decide_eq_true (by
            apply List.ext_getElem HLEN.out
            intro j h1 h2
            have := hE.out j (by rw [HN.out]; exact h1)
            simpa [h1, h2] using this)
          have g0 : ((i : Int) < i) = False := eq_false (by omega)
          clear hgo hi hpos hn100
          go_wp2_with fail
          go_ret
          exact ⟨by rw [HD.out, hd]; rfl, below_drewN (Below.refl _ _) _⟩
  · have hd : decide (l = x) = false := decide_eq_false fun e => hlen (by rw [e])
    have g1 : ((l.length : Int) != x.length) = true := by simp; omega
    rw [hd]
    subst hv hu
    clear hl hx hd
    go_enter Try.func16, Try.ntmps16
    go_wp2_with fail
    go_ret
    exact ⟨rfl, Below.refl _ _⟩
end Go.Proofs.Ytaenfkekdhnakaa
