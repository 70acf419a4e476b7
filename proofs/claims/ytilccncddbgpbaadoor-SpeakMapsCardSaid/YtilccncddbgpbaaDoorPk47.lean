/-
A plan for a region that draws its order and makes one new variable, which nothing waits for but its store: the variable may be made at any time; the walk makes it last.
edsign: Point; a seed's secret; Key.
-/
import Derived.Test.YtilccncddbgpbaaDoorPk06
import Derived.Test.YtilccncddbgpbaaDoorPk03
import Derived.Test.YtilccncddbgpbaaDoorPk46
import Derived.Test.YtilccncddbgpbaaDoorPk14
namespace Go.Proofs.YtilccncddbgpbaaDoor.Pm
open Go.RowKit
variable {P : Program} {md : Region.Mode} {ops : Array Oper} {w0 : World} {F : Nat → Prop}

theorem wpOp_more {j : Nat} {ok oj : Oper} (v : Value) (hj : ops[j]? = some oj) (hap : ok.apart ops oj = true) (hsj : ∀ cs b, oj.op ≠ .select cs b) {K : Act → World → Prop} {a : Act} {w : World} (h : wpOp P ops QF j K a w) :
    wpOp P ops QF j (fun a' w' => ∃ b, a' = b.put ok.dst v ∧ K b w') (a.put ok.dst v) w := by
  obtain ⟨h1, h2, h3⟩ := Oper.apart_spec hap
  unfold wpOp at *
  simp only [hj] at *
  rw [wanted_put oj a ok.dst v h1]
  split
  · rename_i hw
    simp only [hw, if_true] at h
    rcases h with h | ⟨_, hlets⟩
    case inr => exact (not_lets hlets).elim
    refine .inl ?_
    unfold Oper.wp at *
    rw [execOp_put oj hsj a ok.dst v h1]
    generalize (execOp a.eval oj).run P w = r at *
    cases r with
    | ok n w' =>
      cases n <;> simp only [Oper.upon] at h ⊢
      case value u => exact ⟨_, by rw [← Act.put_comm a v u h2], h⟩
      case skip => exact ⟨_, by rw [← Act.put_comm a v undef h2], h⟩
      case defer d =>
        refine ⟨_, ?_, h⟩
        rw [Act.put_defers, ← Act.put_comm _ v undef h2]
      case enter f args =>
        refine Calls.mono h fun e w'' he => ?_
        cases e with
        | returned u => exact ⟨_, by rw [← Act.put_comm a v u h2], he⟩
        | panicked c => exact he.elim
        | outgrown => exact (not_lets he).elim
      case row row args => exact Rows.mono h fun u w'' he => ⟨_, by rw [← Act.put_comm a v u h2], he⟩
    | halt x w' =>
      cases x <;> simp only [Oper.upon] at h ⊢
      case panic u => exact h.elim
  · rename_i hw
    simp only [hw] at h
    exact ⟨_, by rw [← Act.put_comm a v undef h2], h⟩

def wpPlanM (P : Program) (ops : Array Oper) (F : Nat → Prop) (w0 : World) (K : Act → World → Prop) : List (Bool × Nat) → Act → World → Prop
  | [], a, w => ∀ w1, Rw w w1 → K a w1
  | (true, i) :: r, a, w => ∃ o, ops[i]? = some o ∧ if Region.wanted o (yielded ops a.tmps) then ∃ v, (∀ w, Keeps F w0 w → o.quietAt P a (Rw w) w v) ∧ wpPlanM P ops F w0 K r (a.put o.dst v) w else wpPlanM P ops F w0 K r (a.put o.dst undef) w
  | (false, i) :: r, a, w => ∃ o, ops[i]? = some o ∧ ∀ w1, Rw w w1 → wpList P ops (fun e a' w' => e = .normal ∧ Rw w1 w' ∧ wpPlanM P ops F w0 K r a' w') [o] a w1
theorem wpPlanM_drift {K : Act → World → Prop} : ∀ (pl : List (Bool × Nat)) (a : Act) (w w1 : World), wpPlanM P ops F w0 K pl a w → Rw w w1 → wpPlanM P ops F w0 K pl a w1
  | [], _, _, _, h, hw => fun w2 h2 => h w2 (hw.trans h2)
  | (true, i) :: r, a, w, w1, h, hw => by
    obtain ⟨o, ho, h⟩ := h
    refine ⟨o, ho, ?_⟩
    split
    · rename_i hwt
      rw [if_pos hwt] at h
      obtain ⟨v, hv, hK⟩ := h
      exact ⟨v, hv, wpPlanM_drift r _ _ _ hK hw⟩
    · rename_i hwt
      rw [if_neg hwt] at h
      exact wpPlanM_drift r _ _ _ h hw
  | (false, i) :: r, a, w, w1, h, hw => by
    obtain ⟨o, ho, h⟩ := h
    exact ⟨o, ho, fun w2 h2 => h w2 (hw.trans h2)⟩
/-- what stands with and without the variable -/
def freeK (ops : Array Oper) (k i : Nat) : Bool := match ops[k]?, ops[i]? with
  | some ok, some oi => ok.apart ops oi && oi.apart ops ok
  | _, _ => false
theorem freeK_spec {k i : Nat} {ok oi : Oper} (hk : ops[k]? = some ok) (hi : ops[i]? = some oi) (h : freeK ops k i = true) : ok.apart ops oi = true ∧ oi.apart ops ok = true := by
  unfold freeK at h
  rw [hk, hi] at h
  simpa using h
def lateB (md : Region.Mode) (ops : Array Oper) (k : Nat) (pl2 : List (Bool × Nat)) : List (Bool × Nat) → Array Bool → Bool
  | [], listed => decide (Region.ready md ops listed = [k]) && Pl.planB md ops pl2 (listed.setIfInBounds k true)
  | (true, i) :: r, listed => decide (i ≠ k) && decide (i ∈ Region.ready md ops listed) && Region.free md ops listed i && decide (i ∈ Region.ready md ops (listed.setIfInBounds k true)) && Region.free md ops (listed.setIfInBounds k true) i && freeK ops k i && lateB md ops k pl2 r (listed.setIfInBounds i true)
  | (false, i) :: r, listed => decide (i ≠ k) && !(Region.ready md ops listed).isEmpty && (Region.ready md ops listed).all (fun j => decide (j = i ∨ j = k)) && decide (Region.ready md ops (listed.setIfInBounds k true) = [i]) && freeK ops k i && lateB md ops k pl2 r (listed.setIfInBounds i true)
section
variable {t : TypeId} {z : List Value} {k : Nat} {ok : Oper} {d : Tmp}
def lateK (P : Program) (ops : Array Oper) (F : Nat → Prop) (w0 : World) (K : Act → World → Prop) (t : TypeId) (z : List Value) (d : Tmp) (pl2 : List (Bool × Nat)) : Act → World → Prop :=
  fun a w => ∀ c w1, Rw w w1 → w0.heap.size ≤ c → Blk w1 c t z → Pl.wpPlan P ops F w0 K pl2 (a.put (some d) (.pointer (some ⟨c, 0, none⟩))) w1
/-- it is there already -/
theorem late_done {K : Act → World → Prop} (hsel : Region.noSelect ops = true) (hk : ops[k]? = some ok) (hd : ok.dst = some d) (pl2 : List (Bool × Nat)) (c : Nat) (hc : w0.heap.size ≤ c) :
    ∀ (pl : List (Bool × Nat)) (listed : Array Bool) (a : Act) (w : World), lateB md ops k pl2 pl listed = true → Keeps F w0 w → Blk w c t z → wpPlanM P ops F w0 (lateK P ops F w0 K t z d pl2) pl a w →
      Pl.wpDr P md ops F w0 K (pl.length + pl2.length) (listed.setIfInBounds k true) (a.put (some d) (.pointer (some ⟨c, 0, none⟩))) w
  | [], listed, a, w, hB, hw, hb, h => by
    simp only [lateB, Bool.and_eq_true, decide_eq_true_eq] at hB
    rw [List.length_nil, Nat.zero_add]
    exact Pl.wpDr_plan hsel pl2 _ _ _ hB.2 hw (h w (Rw.refl _) c w (Rw.refl _) hc hb)
  | (true, i) :: r, listed, a, w, hB, hw, hb, h => by
    simp only [lateB, Bool.and_eq_true, decide_eq_true_eq] at hB
    obtain ⟨o, h0, h⟩ := h
    obtain ⟨a1, a2⟩ := freeK_spec hk h0 hB.1.2
    obtain ⟨h1, h2, h3⟩ := Oper.apart_spec a1
    rw [hd] at h1 h2
    have hsi := fun cs b => Region.noSelect_spec hsel i o cs b h0
    have ew : Region.wanted o (yielded ops (a.put (some d) (.pointer (some ⟨c, 0, none⟩))).tmps) = Region.wanted o (yielded ops a.tmps) := wanted_put o a _ _ h1
    have ee : execOp (a.put (some d) (.pointer (some ⟨c, 0, none⟩))).eval o = execOp a.eval o := execOp_put o hsi a _ _ h1
    rw [show ((true, i) :: r).length + pl2.length = (r.length + pl2.length) + 1 by simp only [List.length_cons]; omega]
    have ih : ∀ v, wpPlanM P ops F w0 (lateK P ops F w0 K t z d pl2) r (a.put o.dst v) w → Pl.wpDr P md ops F w0 K (r.length + pl2.length) ((listed.setIfInBounds k true).setIfInBounds i true) ((a.put (some d) (.pointer (some ⟨c, 0, none⟩))).put o.dst v) w := fun v hv => by
      have := late_done hsel hk hd pl2 c hc r _ _ w hB.2 hw hb hv
      rw [Array.setIfInBounds_comm _ _ hB.1.1.1.1.1.1] at this
      rwa [← Act.put_comm a (.pointer (some ⟨c, 0, none⟩)) v h2] at this
    by_cases hwt : Region.wanted o (yielded ops a.tmps) = true
    · simp only [hwt, if_true] at h
      obtain ⟨v, hv, hK⟩ := h
      exact Pl.wpDr_first h0 (Region.noSelect_spec hsel) _ _ _ w (Region.free_spec h0 hB.1.1.2) hB.1.1.1.2 (Pl.YieldsD.of_same (.inl ⟨hwt, hv⟩) ee ew) hw (ih v hK)
    · simp only [hwt] at h
      exact Pl.wpDr_first h0 (Region.noSelect_spec hsel) _ _ _ w (Region.free_spec h0 hB.1.1.2) hB.1.1.1.2 (Pl.YieldsD.of_same (.inr ⟨by simpa using hwt, rfl⟩) ee ew) hw (ih _ h)
  | (false, i) :: r, listed, a, w, hB, hw, hb, h => by
    simp only [lateB, Bool.and_eq_true, decide_eq_true_eq] at hB
    obtain ⟨o, h0, h⟩ := h
    obtain ⟨a1, a2⟩ := freeK_spec hk h0 hB.1.2
    rw [show ((false, i) :: r).length + pl2.length = (r.length + pl2.length) + 1 by simp only [List.length_cons]; omega]
    refine ⟨fun e => (by rw [hB.1.1.2] at e; cases e), fun j hj w1 h1 => ?_⟩
    rw [hB.1.1.2] at hj
    obtain rfl : j = i := by simpa using hj
    have h2 := wpOp_of_one (K := fun a' w' => Rw w1 w' ∧ wpPlanM P ops F w0 (lateK P ops F w0 K t z d pl2) r a' w') h0 (h w1 h1)
    have h3 := wpOp_more (.pointer (some ⟨c, 0, none⟩)) h0 a1 (fun cs b => Region.noSelect_spec hsel j o cs b h0) h2
    rw [hd] at h3
    refine wpOp_mono (fun a' w' h' => ?_) h3
    obtain ⟨b, rfl, hr, hp⟩ := h'
    have hw' : Keeps F w0 w' := (hw.rw h1).rw hr
    refine ⟨hw', ?_⟩
    rw [Array.setIfInBounds_comm _ _ (Ne.symm hB.1.1.1.1.1)]
    exact late_done hsel hk hd pl2 c hc r _ b w' hB.2 hw' ((hb.below h1 hb.lt).below hr (hb.below h1 hb.lt).lt) hp
theorem op_make {i : Nat} {o : Oper} {a : Act} {w : World} {K : Act → World → Prop} (hal : ∀ w, (Instr.alloc t true (.tuple #[])).run P w = .ok (.pointer (some ⟨w.heap.size, 0, none⟩)) (w.alloc (.cells z.toArray t)))
    (hi : ops[i]? = some o) (hg : o.guard = none) (ha : o.op = .alloc t) (hd : o.dst = some d) (h : K (a.put (some d) (.pointer (some ⟨w.heap.size, 0, none⟩))) (w.alloc (.cells z.toArray t))) : wpOp P ops QF i K a w := by
  refine wpOp_of_one hi (wpList_plain hg fun K1 hK1 => ?_)
  unfold Oper.wp execOp
  simp only [ha, Sem.run_bind, hal w, Result.andThen_ok, Sem.run_pure, Oper.upon]
  refine hK1 _ _ ⟨rfl, ?_⟩
  rw [hd]
  exact h
theorem late_all {K : Act → World → Prop} (hal : ∀ w, (Instr.alloc t true (.tuple #[])).run P w = .ok (.pointer (some ⟨w.heap.size, 0, none⟩)) (w.alloc (.cells z.toArray t))) (hsel : Region.noSelect ops = true) (hk : ops[k]? = some ok) (hg : ok.guard = none) (ha : ok.op = .alloc t) (hd : ok.dst = some d) (pl2 : List (Bool × Nat)) :
    ∀ (pl : List (Bool × Nat)) (listed : Array Bool) (a : Act) (w : World), lateB md ops k pl2 pl listed = true → Rw w0 w → wpPlanM P ops F w0 (lateK P ops F w0 K t z d pl2) pl a w →
      Pl.wpDr P md ops F w0 K (pl.length + pl2.length + 1) listed a w
  | [], listed, a, w, hB, hw, h => by
    have hB0 := hB
    simp only [lateB, Bool.and_eq_true, decide_eq_true_eq] at hB
    refine ⟨fun e => (by rw [hB.1] at e; cases e), fun j hj w1 h1 => ?_⟩
    rw [hB.1] at hj
    obtain rfl : j = k := by simpa using hj
    have hw1 := Rw.trans hw h1
    have hw2 : Rw w1 (w1.alloc (.cells z.toArray t)) := below1 w1 _
    refine op_make hal hk hg ha hd ⟨(Keeps.of_below (F := F) (Rw.trans hw1 hw2)), ?_⟩
    exact late_done hsel hk hd pl2 _ hw1.size [] listed a _ hB0 (Keeps.of_below (Rw.trans hw1 hw2)) (Blk.new w1 t z) (wpPlanM_drift [] a w _ h (Rw.trans h1 hw2))
  | (true, i) :: r, listed, a, w, hB, hw, h => by
    simp only [lateB, Bool.and_eq_true, decide_eq_true_eq] at hB
    obtain ⟨o, h0, h⟩ := h
    rw [show ((true, i) :: r).length + pl2.length + 1 = (r.length + pl2.length + 1) + 1 by simp only [List.length_cons]; omega]
    by_cases hwt : Region.wanted o (yielded ops a.tmps) = true
    · simp only [hwt, if_true] at h
      obtain ⟨v, hv, hK⟩ := h
      exact Pl.wpDr_first h0 (Region.noSelect_spec hsel) _ listed a w (Region.free_spec h0 hB.1.1.1.1.2) hB.1.1.1.1.1.2 (.inl ⟨hwt, hv⟩) (Keeps.of_below hw) (late_all hal hsel hk hg ha hd pl2 r _ _ w hB.2 hw hK)
    · simp only [hwt] at h
      exact Pl.wpDr_first h0 (Region.noSelect_spec hsel) _ listed a w (Region.free_spec h0 hB.1.1.1.1.2) hB.1.1.1.1.1.2 (.inr ⟨by simpa using hwt, rfl⟩) (Keeps.of_below hw) (late_all hal hsel hk hg ha hd pl2 r _ _ w hB.2 hw h)
  | (false, i) :: r, listed, a, w, hB, hw, h => by
    have hB0 := hB
    have hp0 := h
    simp only [lateB, Bool.and_eq_true, decide_eq_true_eq, Bool.not_eq_true', List.all_eq_true] at hB
    obtain ⟨o, h0, h⟩ := h
    refine ⟨fun e => (by rw [e] at hB; exact absurd hB.1.1.1.1.2 (by simp)), fun j hj w1 h1 => ?_⟩
    have hw1 := Rw.trans hw h1
    rcases hB.1.1.1.2 j hj with rfl | rfl
    · have h2 := wpOp_of_one (K := fun a' w' => Rw w1 w' ∧ wpPlanM P ops F w0 (lateK P ops F w0 K t z d pl2) r a' w') h0 (h w1 h1)
      refine wpOp_mono (fun a' w' h' => ⟨Keeps.of_below (Rw.trans hw1 h'.1), ?_⟩) h2
      have := late_all hal hsel hk hg ha hd pl2 r _ a' w' hB.2 (Rw.trans hw1 h'.1) h'.2
      rw [show ((false, j) :: r).length + pl2.length = r.length + pl2.length + 1 by simp only [List.length_cons]; omega]
      exact this
    · have hw2 : Rw w1 (w1.alloc (.cells z.toArray t)) := below1 w1 _
      refine op_make hal hk hg ha hd ⟨(Keeps.of_below (F := F) (Rw.trans hw1 hw2)), ?_⟩
      exact late_done hsel hk hd pl2 _ hw1.size ((false, i) :: r) listed a _ hB0 (Keeps.of_below (Rw.trans hw1 hw2)) (Blk.new w1 t z) (wpPlanM_drift _ a w _ hp0 (Rw.trans h1 hw2))
end
def regionB (ops : Array Oper) (k : Nat) (pl pl2 : List (Bool × Nat)) : Bool := Region.noSelect ops && decide (pl.length + pl2.length + 1 = ops.size) && lateB .any ops k pl2 pl (Array.replicate ops.size false)
theorem wp_region_late {id : Nat} {Q : Exit → Act → World → Prop} {a : Act} {w : World} {l : List Oper} (F : Nat → Prop) (k : Nat) (pl pl2 : List (Bool × Nat)) {t : TypeId} {z : List Value} {ok : Oper} {d : Tmp}
    (hal : ∀ w, (Instr.alloc t true (.tuple #[])).run P w = .ok (.pointer (some ⟨w.heap.size, 0, none⟩)) (w.alloc (.cells z.toArray t))) (hk : l.toArray[k]? = some ok) (hg : ok.guard = none) (ha : ok.op = .alloc t) (hd : ok.dst = some d)
    (hm : P.follows .mixedOrders = true) (hB : regionB l.toArray k pl pl2 = true)
    (h : wpPlanM P l.toArray F w.drew (lateK P l.toArray F w.drew (fun a' w' => Q .normal a' w') t z d pl2) pl a w.drew) : (Code.region id l.toArray true).wp P Q a w := by
  simp only [regionB, Bool.and_eq_true, decide_eq_true_eq] at hB
  refine wp_region_any hm ?_
  have G := late_all hal hB.1.1 hk hg ha hd pl2 pl (Array.replicate l.toArray.size false) a w.drew hB.2 (Rw.refl _) h
  rw [hB.1.2] at G
  exact Pl.wpAny_of_dr (fun _ _ h => h) _ _ _ _ G
theorem nil {K : Act → World → Prop} {a : Act} {w : World} (h : ∀ w1, Rw w w1 → K a w1) : wpPlanM P ops F w0 K [] a w := h
theorem head {K' : Act → World → Prop} {i : Nat} {r : List (Bool × Nat)} {a : Act} {w : World} {o : Oper} (hi : ops[i]? = some o)
    (h : ∀ K : Act → Prop, (∀ a, wpPlanM P ops F w0 K' r a w → K a) → if Region.wanted o (yielded ops a.tmps) then ∃ v, (∀ w, Keeps F w0 w → o.quietAt P a (Rw w) w v) ∧ K (a.put o.dst v) else K (a.put o.dst undef)) : wpPlanM P ops F w0 K' ((true, i) :: r) a w :=
  ⟨o, hi, h _ (fun _ h => h)⟩
theorem sole {K' : Act → World → Prop} {i : Nat} {r : List (Bool × Nat)} {a : Act} {w : World} {o : Oper} (hi : ops[i]? = some o)
    (h : ∀ w1, Rw w w1 → ∀ Q' : Exit → Act → World → Prop, (∀ a' w', Rw w1 w' → wpPlanM P ops F w0 K' r a' w' → Q' .normal a' w') → wpList P ops Q' [o] a w1) : wpPlanM P ops F w0 K' ((false, i) :: r) a w :=
  ⟨o, hi, fun w1 h1 => h w1 h1 _ fun _ _ h2 h3 => ⟨rfl, h2, h3⟩⟩
end Go.Proofs.YtilccncddbgpbaaDoor.Pm

namespace Go.Proofs.YtilccncddbgpbaaDoor
open Go.RowKit
namespace Eds
set_option maxHeartbeats 4000000 in
set_option maxRecDepth 100000 in
theorem point_ok (l : List UInt8) (w : World) (hl : l.length = 32) (y x : Fp) (ok : Bool) (hy : fpOf ⟨l.toArray⟩ = y) (hr : rt (y * y - 1) (Ed.d * (y * y) + 1) = (x, ok)) (x' : Fp) (hx' : x' = if topL l then -x else x) :
    Calls Tryd.prog 14 #[.agg (bvals l).toArray] w fun e w' => e = .returned (.bool (ok && decide (encL x' y = l))) ∧ Below w.heap.size w w' := by
  have RD := fun b lb w' hc => read_ok b lb l w' hc hl y x ok hy hr x' hx'
  generalize (ok && decide (encL x' y = l)) = out at *
  clear hy hr hx'
  go_enter Tryd.func14, Tryd.ntmps14
  go_upto_region 1 with fail
  refine wp_gen (fun wx => Blk wx w.heap.size tB (bvals l) ∧ Below w.heap.size w wx) ⟨Blk.new w _ _, below1 _ _⟩ ?_
  rintro w1 ⟨O1, BW⟩
  have M1 : Blk w1.drew w.heap.size tB (bvals l) := O1
  have BD : Below w.heap.size w w1.drew := below_drewN BW 1
  refine Pm.wp_region_late (fun _ => False) 6 [(true, 1), (false, 0), (false, 2), (true, 3), (true, 4), (true, 5)] [(false, 7), (true, 8)] run_alloc_q rfl rfl rfl rfl (by kernel_rfl) (by kernel_rfl) ?_
  (refine Pm.head (i := 1) rfl (fun K hK => ?_); refine Pl.plan_load (fun w' hw' => hw'.blk M1 (fun h => h)) Tryd.underlying22 rfl arr32_size (blen hl) (by first | rfl | simp [Region.wanted, yielded]) rfl (by go_simp) ?_; go_simp; (with_reducible apply hK); clear hK K)
  refine Pm.sole (i := 0) rfl (fun w2 h2 Q hQ => ?_)
  go_wp2_with fail
  refine (begin_ok w2).mono ?_
  rintro e w3 ⟨b, lb, rfl, CV, PB, hb⟩
  go_wp2_with fail
  refine hQ _ _ hb ?_
  clear hQ Q
  go_simp
  have R3 : Rw w1.drew w3 := Rw.trans h2 hb
  refine Pm.sole (i := 2) rfl (fun w4 h4 Q hQ => ?_)
  go_wp2_with fail
  refine (RD b lb w4 (CV.below h4)).mono ?_
  rintro e w5 ⟨lp, rfl, HP, hb5⟩
  go_wp2_with fail
  refine hQ _ _ hb5 ?_
  clear hQ Q
  go_simp
  have R5 : Rw w1.drew w5 := Rw.trans (Rw.trans R3 h4) hb5
  clear h2 hb h4 hb5 R3 CV PB
  have LP := HP.len
  (refine Pm.head (i := 3) rfl (fun K hK => ?_); refine Pl.plan_plain (.tuple #[.agg (uvals lp).toArray, .bool out]) (by first | rfl | simp [Region.wanted, yielded]) (fun w' hw' => by go_simp) ?_; go_simp; (with_reducible apply hK); clear hK K)
  (refine Pm.head (i := 4) rfl (fun K hK => ?_); refine Pl.plan_plain (.agg (uvals lp).toArray) (by first | rfl | simp [Region.wanted, yielded]) (fun w' hw' => by go_simp) ?_; go_simp; (with_reducible apply hK); clear hK K)
  (refine Pm.head (i := 5) rfl (fun K hK => ?_); refine Pl.plan_plain (.bool out) (by first | rfl | simp [Region.wanted, yielded]) (fun w' hw' => by go_simp) ?_; go_simp; (with_reducible apply hK); clear hK K)
  refine Pm.nil (fun w6 h6 => ?_)
  intro c w7 h7 hc OC
  refine Pl.plan_sole (i := 7) rfl (fun w8 h8 Q hQ => ?_)
  have OC8 := OC.below h8 OC.lt
  have R8 : Rw w1.drew w8 := Rw.trans (Rw.trans (Rw.trans R5 h6) h7) h8
  refine store_pt (l := lp) OC8 rfl LP rfl rfl (by go_simp) (by go_simp) ?_
  unfold wpList
  have R9 : Rw w1.drew (w8.setRow c (uvals lp).toArray) := below_row R8 _ _ hc
  refine hQ _ _ (Keeps.of_below R9) ?_
  clear hQ Q
  go_simp
  (refine Pl.plan_head (i := 8) rfl (fun K hK => ?_); refine Pl.plan_plain (.bool out) (by first | rfl | simp [Region.wanted, yielded]) (fun w' hw' => by go_simp) ?_; go_simp; (with_reducible apply hK); clear hK K)
  refine Pl.plan_nil (fun wz hz => ?_)
  have BZ := BD.trans ((Rw.trans R9 hz).mono BD.size)
  clear h8 h7 h6 R5 R8 R9 hz OC OC8
  go_simp
  go_wp2_with fail
  go_ret
  exact ⟨rfl, BZ⟩
end Eds
end Go.Proofs.YtilccncddbgpbaaDoor
