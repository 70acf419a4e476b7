/-
The document's keeper: how it lies as a value; its Wait.
-/
import Derived.Test.YtaenfkekdhnakaaKTries
namespace Go.Proofs.Ytaenfkekdhnakaa
open Go.RowKit

/-- the document's keeper as a value -/
def rv (s : KS) (vn vi va : Value) : Value := .agg (kcells s vn vi va).toArray
structure RX (w : World) (s : KS) (vn vi va : Value) : Prop where
  names : Sg w 1 vn s.names.length (svals s.names)
  wants : Sg w 1 vi s.wants.length (nvals s.wants)
  asked : Sg w 1 va s.asked.length (zvals s.asked)
theorem RX.below {w w' : World} {s : KS} {vn vi va : Value} (h : RX w s vn vi va) (hb : Below w.heap.size w w') : RX w' s vn vi va := ⟨h.names.below hb, h.wants.below hb, h.asked.below hb⟩
theorem RX.keeps {w w' : World} {F : Nat → Prop} {s : KS} {vn vi va : Value} (h : RX w s vn vi va) (hk : Keeps F w w') (h1 : ∀ g, vblk vn = some g → ¬ F g) (h2 : ∀ g, vblk vi = some g → ¬ F g) (h3 : ∀ g, vblk va = some g → ¬ F g) : RX w' s vn vi va := ⟨h.names.keeps hk h1, h.wants.keeps hk h2, h.asked.keeps hk h3⟩
theorem Sg.shape {w : World} {size : Nat} {v : Value} {n : Nat} {xs : List Value} (h : Sg w size v n xs) : ∃ ao cap, v = .slice ao n cap := by
  obtain ⟨_, ao, cap, hv, _⟩ := h
  exact ⟨ao, cap, hv⟩

set_option maxHeartbeats 1000000 in
set_option maxRecDepth 100000 in
theorem wait_ok (s : KS) (an ai aa : Option Addr) (ln cn li ci la ca : Nat) (n : Nat) (w : World) (hn : n ≤ 1048576) (h1 : 1 ≤ s.first) (h2 : s.first ≤ s.most) (h3 : s.most ≤ 1048576) :
    Calls Try.prog 18 #[rv s (.slice an ln cn) (.slice ai li ci) (.slice aa la ca), .int .i64 n] w fun e w' => e = .returned (.int .i64 (s.wait n)) ∧ Below w.heap.size w w' := by
  unfold rv kcells
  obtain ⟨m, hm⟩ : ∃ m, m = s.wait n := ⟨_, rfl⟩
  rw [← hm]
  go_enter Try.func18, Try.ntmps18
  go_upto_region 1 with fail
  refine wp_gen (fun wx => Blk wx w.heap.size 31 (kcells s (.slice an ln cn) (.slice ai li ci) (.slice aa la ca)) ∧ Below w.heap.size w wx) ⟨Blk.new w _ _, (Below.refl _ _).alloc (Nat.le_refl _) _⟩ ?_
  rintro w1 ⟨p1, hb1⟩
  have c1 := p1.cell 1 _ rfl
  have c2 := p1.cell 2 _ rfl
  clear p1
  go_wp2_with fail
  go_loop [5, 6] (fun vwt vi => ∃ i wt : Nat, vi = .int .i64 i ∧ vwt = .int .i64 wt ∧ i ≤ n ∧ 1 ≤ wt ∧ wt < 2097152 ∧ Hid (waitF s.most (n - i) wt = waitF s.most n s.first)) (fun _ vi => n - (intOf vi).toNat)
  case atStart => exact ⟨0, s.first, rfl, rfl, by omega, by omega, by omega, rfl⟩
  case round =>
    obtain ⟨i, wt, rfl, rfl, hi, hw1, hw2, hF⟩ := hrel
    have out : (i = n ∨ s.most ≤ wt) → min wt s.most = m := by
      intro h
      rw [hm]
      unfold KS.wait
      rw [← hF.out]
      rcases h with h | h
      · rw [h, Nat.sub_self]; rfl
      · rw [waitF_done h]
    by_cases hgo : i < n ∧ wt < s.most
    · obtain ⟨hif, hwm⟩ := hgo
      have HF2 : Hid (waitF s.most (n - (i + 1)) (wt * 2) = waitF s.most n s.first) := by
        have := hF.out
        rwa [show n - i = (n - (i + 1)) + 1 from by omega, waitF_step hwm] at this
      clear hF out hm
      go_wp2_with fail
      go_round
      case rel => exact ⟨i + 1, wt * 2, by go_num, by go_num, by omega, by omega, by omega, HF2⟩
      case measure => simp [intOf]; omega
    · have hmin := out (by omega)
      clear out hF
      have hcase : (i < n ∧ s.most < wt ∧ s.most = m) ∨ (i < n ∧ s.most ≤ wt ∧ wt ≤ s.most ∧ wt = m) ∨ (n ≤ i ∧ wt ≤ s.most ∧ wt = m) ∨ (n ≤ i ∧ s.most < wt ∧ s.most = m) := by omega
      clear hm hgo hmin
      rcases hcase with ⟨q1, q2, q3⟩ | ⟨q1, q2, q3, q4⟩ | ⟨q1, q2, q3⟩ | ⟨q1, q2, q3⟩
      all_goals
        subst m
        go_wp2_with fail
        go_ret
        exact ⟨by first | rfl | simp, hb1⟩
end Go.Proofs.Ytaenfkekdhnakaa
