/-
A plan for a region that draws its order and makes one new variable, which nothing waits for but its store: the variable may be made at any time; the walk makes it last.
edsign: Point; a seed's secret; Key.
edsign: a seed's secret; Key.
edsign: Key.
edsign: reduce.
-/
import Derived.Test.YtkhdhiddhnmdkaaGreatDoorPk03
import Derived.Test.YtkhdhiddhnmdkaaGreatDoorPk02
import Derived.Test.YtkhdhiddhnmdkaaGreatDoorPk29
import Derived.Test.YtkhdhiddhnmdkaaGreatDoorPk08
import Derived.Test.YtkhdhiddhnmdkaaGreatDoorPk27
namespace Go.Proofs.YtkhdhiddhnmdkaaGreatDoor.Pm
open Go.RowKit
variable {P : Program} {md : Region.Mode} {ops : Array Oper} {w0 : World} {F : Nat → Prop}

theorem wpOp_more {j : Nat} {ok oj : Oper} (v : Value) (hj : ops[j]? = some oj) (hap : ok.apart ops oj = true) (hsj : ∀ cs b, oj.op ≠ .select cs b) {K : Act → World → Prop} {a : Act} {w : World} (h : wpOp P ops QF j K a w) :
    wpOp P ops QF j (fun a' w' => ∃ b, a' = b.put ok.dst v ∧ K b w') (a.put ok.dst v) w := by
  obtain ⟨h1, h2, h3⟩ := Oper.apart_spec hap
  unfold wpOp at *
  simp only [hj] at *
  rw [wanted_put oj a ok.dst v h1]
  split
  · rename_i hw
    simp only [hw, if_true] at h
    rcases h with h | ⟨_, hlets⟩
    case inr => exact (not_lets hlets).elim
    refine .inl ?_
    unfold Oper.wp at *
    rw [execOp_put oj hsj a ok.dst v h1]
    generalize (execOp a.eval oj).run P w = r at *
    cases r with
    | ok n w' =>
      cases n <;> simp only [Oper.upon] at h ⊢
      case value u => exact ⟨_, by rw [← Act.put_comm a v u h2], h⟩
      case skip => exact ⟨_, by rw [← Act.put_comm a v undef h2], h⟩
      case defer d =>
        refine ⟨_, ?_, h⟩
        rw [Act.put_defers, ← Act.put_comm _ v undef h2]
      case enter f args =>
        refine Calls.mono h fun e w'' he => ?_
        cases e with
        | returned u => exact ⟨_, by rw [← Act.put_comm a v u h2], he⟩
        | panicked c => exact he.elim
        | outgrown => exact (not_lets he).elim
      case row row args => exact Rows.mono h fun u w'' he => ⟨_, by rw [← Act.put_comm a v u h2], he⟩
    | halt x w' =>
      cases x <;> simp only [Oper.upon] at h ⊢
      case panic u => exact h.elim
  · rename_i hw
    simp only [hw] at h
    exact ⟨_, by rw [← Act.put_comm a v undef h2], h⟩

def wpPlanM (P : Program) (ops : Array Oper) (F : Nat → Prop) (w0 : World) (K : Act → World → Prop) : List (Bool × Nat) → Act → World → Prop
  | [], a, w => ∀ w1, Rw w w1 → K a w1
  | (true, i) :: r, a, w => ∃ o, ops[i]? = some o ∧ if Region.wanted o (yielded ops a.tmps) then ∃ v, (∀ w, Keeps F w0 w → o.quietAt P a (Rw w) w v) ∧ wpPlanM P ops F w0 K r (a.put o.dst v) w else wpPlanM P ops F w0 K r (a.put o.dst undef) w
  | (false, i) :: r, a, w => ∃ o, ops[i]? = some o ∧ ∀ w1, Rw w w1 → wpList P ops (fun e a' w' => e = .normal ∧ Rw w1 w' ∧ wpPlanM P ops F w0 K r a' w') [o] a w1
theorem wpPlanM_drift {K : Act → World → Prop} : ∀ (pl : List (Bool × Nat)) (a : Act) (w w1 : World), wpPlanM P ops F w0 K pl a w → Rw w w1 → wpPlanM P ops F w0 K pl a w1
  | [], _, _, _, h, hw => fun w2 h2 => h w2 (hw.trans h2)
  | (true, i) :: r, a, w, w1, h, hw => by
    obtain ⟨o, ho, h⟩ := h
    refine ⟨o, ho, ?_⟩
    split
    · rename_i hwt
      rw [if_pos hwt] at h
      obtain ⟨v, hv, hK⟩ := h
      exact ⟨v, hv, wpPlanM_drift r _ _ _ hK hw⟩
    · rename_i hwt
      rw [if_neg hwt] at h
      exact wpPlanM_drift r _ _ _ h hw
  | (false, i) :: r, a, w, w1, h, hw => by
    obtain ⟨o, ho, h⟩ := h
    exact ⟨o, ho, fun w2 h2 => h w2 (hw.trans h2)⟩
/-- what stands with and without the variable -/
def freeK (ops : Array Oper) (k i : Nat) : Bool := match ops[k]?, ops[i]? with
  | some ok, some oi => ok.apart ops oi && oi.apart ops ok
  | _, _ => false
theorem freeK_spec {k i : Nat} {ok oi : Oper} (hk : ops[k]? = some ok) (hi : ops[i]? = some oi) (h : freeK ops k i = true) : ok.apart ops oi = true ∧ oi.apart ops ok = true := by
  unfold freeK at h
  rw [hk, hi] at h
  simpa using h
def lateB (md : Region.Mode) (ops : Array Oper) (k : Nat) (pl2 : List (Bool × Nat)) : List (Bool × Nat) → Array Bool → Bool
  | [], listed => decide (Region.ready md ops listed = [k]) && Pl.planB md ops pl2 (listed.setIfInBounds k true)
  | (true, i) :: r, listed => decide (i ≠ k) && decide (i ∈ Region.ready md ops listed) && Region.free md ops listed i && decide (i ∈ Region.ready md ops (listed.setIfInBounds k true)) && Region.free md ops (listed.setIfInBounds k true) i && freeK ops k i && lateB md ops k pl2 r (listed.setIfInBounds i true)
  | (false, i) :: r, listed => decide (i ≠ k) && !(Region.ready md ops listed).isEmpty && (Region.ready md ops listed).all (fun j => decide (j = i ∨ j = k)) && decide (Region.ready md ops (listed.setIfInBounds k true) = [i]) && freeK ops k i && lateB md ops k pl2 r (listed.setIfInBounds i true)
section
variable {t : TypeId} {z : List Value} {k : Nat} {ok : Oper} {d : Tmp}
def lateK (P : Program) (ops : Array Oper) (F : Nat → Prop) (w0 : World) (K : Act → World → Prop) (t : TypeId) (z : List Value) (d : Tmp) (pl2 : List (Bool × Nat)) : Act → World → Prop :=
  fun a w => ∀ c w1, Rw w w1 → w0.heap.size ≤ c → Blk w1 c t z → Pl.wpPlan P ops F w0 K pl2 (a.put (some d) (.pointer (some ⟨c, 0, none⟩))) w1
/-- it is there already -/
theorem late_done {K : Act → World → Prop} (hsel : Region.noSelect ops = true) (hk : ops[k]? = some ok) (hd : ok.dst = some d) (pl2 : List (Bool × Nat)) (c : Nat) (hc : w0.heap.size ≤ c) :
    ∀ (pl : List (Bool × Nat)) (listed : Array Bool) (a : Act) (w : World), lateB md ops k pl2 pl listed = true → Keeps F w0 w → Blk w c t z → wpPlanM P ops F w0 (lateK P ops F w0 K t z d pl2) pl a w →
      Pl.wpDr P md ops F w0 K (pl.length + pl2.length) (listed.setIfInBounds k true) (a.put (some d) (.pointer (some ⟨c, 0, none⟩))) w
  | [], listed, a, w, hB, hw, hb, h => by
    simp only [lateB, Bool.and_eq_true, decide_eq_true_eq] at hB
    rw [List.length_nil, Nat.zero_add]
    exact Pl.wpDr_plan hsel pl2 _ _ _ hB.2 hw (h w (Rw.refl _) c w (Rw.refl _) hc hb)
  | (true, i) :: r, listed, a, w, hB, hw, hb, h => by
    simp only [lateB, Bool.and_eq_true, decide_eq_true_eq] at hB
    obtain ⟨o, h0, h⟩ := h
    obtain ⟨a1, a2⟩ := freeK_spec hk h0 hB.1.2
    obtain ⟨h1, h2, h3⟩ := Oper.apart_spec a1
    rw [hd] at h1 h2
    have hsi := fun cs b => Region.noSelect_spec hsel i o cs b h0
    have ew : Region.wanted o (yielded ops (a.put (some d) (.pointer (some ⟨c, 0, none⟩))).tmps) = Region.wanted o (yielded ops a.tmps) := wanted_put o a _ _ h1
    have ee : execOp (a.put (some d) (.pointer (some ⟨c, 0, none⟩))).eval o = execOp a.eval o := execOp_put o hsi a _ _ h1
    rw [show ((true, i) :: r).length + pl2.length = (r.length + pl2.length) + 1 by simp only [List.length_cons]; omega]
    have ih : ∀ v, wpPlanM P ops F w0 (lateK P ops F w0 K t z d pl2) r (a.put o.dst v) w → Pl.wpDr P md ops F w0 K (r.length + pl2.length) ((listed.setIfInBounds k true).setIfInBounds i true) ((a.put (some d) (.pointer (some ⟨c, 0, none⟩))).put o.dst v) w := fun v hv => by
      have := late_done hsel hk hd pl2 c hc r _ _ w hB.2 hw hb hv
      rw [Array.setIfInBounds_comm _ _ hB.1.1.1.1.1.1] at this
      rwa [← Act.put_comm a (.pointer (some ⟨c, 0, none⟩)) v h2] at this
    by_cases hwt : Region.wanted o (yielded ops a.tmps) = true
    · simp only [hwt, if_true] at h
      obtain ⟨v, hv, hK⟩ := h
      exact Pl.wpDr_first h0 (Region.noSelect_spec hsel) _ _ _ w (Region.free_spec h0 hB.1.1.2) hB.1.1.1.2 (Pl.YieldsD.of_same (.inl ⟨hwt, hv⟩) ee ew) hw (ih v hK)
    · simp only [hwt] at h
      exact Pl.wpDr_first h0 (Region.noSelect_spec hsel) _ _ _ w (Region.free_spec h0 hB.1.1.2) hB.1.1.1.2 (Pl.YieldsD.of_same (.inr ⟨by simpa using hwt, rfl⟩) ee ew) hw (ih _ h)
  | (false, i) :: r, listed, a, w, hB, hw, hb, h => by
    simp only [lateB, Bool.and_eq_true, decide_eq_true_eq] at hB
    obtain ⟨o, h0, h⟩ := h
    obtain ⟨a1, a2⟩ := freeK_spec hk h0 hB.1.2
    rw [show ((false, i) :: r).length + pl2.length = (r.length + pl2.length) + 1 by simp only [List.length_cons]; omega]
    refine ⟨fun e => (by rw [hB.1.1.2] at e; cases e), fun j hj w1 h1 => ?_⟩
    rw [hB.1.1.2] at hj
    obtain rfl : j = i := by simpa using hj
    have h2 := wpOp_of_one (K := fun a' w' => Rw w1 w' ∧ wpPlanM P ops F w0 (lateK P ops F w0 K t z d pl2) r a' w') h0 (h w1 h1)
    have h3 := wpOp_more (.pointer (some ⟨c, 0, none⟩)) h0 a1 (fun cs b => Region.noSelect_spec hsel j o cs b h0) h2
    rw [hd] at h3
    refine wpOp_mono (fun a' w' h' => ?_) h3
    obtain ⟨b, rfl, hr, hp⟩ := h'
    have hw' : Keeps F w0 w' := (hw.rw h1).rw hr
    refine ⟨hw', ?_⟩
    rw [Array.setIfInBounds_comm _ _ (Ne.symm hB.1.1.1.1.1)]
    exact late_done hsel hk hd pl2 c hc r _ b w' hB.2 hw' ((hb.below h1 hb.lt).below hr (hb.below h1 hb.lt).lt) hp
theorem op_make {i : Nat} {o : Oper} {a : Act} {w : World} {K : Act → World → Prop} (hal : ∀ w, (Instr.alloc t true (.tuple #[])).run P w = .ok (.pointer (some ⟨w.heap.size, 0, none⟩)) (w.alloc (.cells z.toArray t)))
    (hi : ops[i]? = some o) (hg : o.guard = none) (ha : o.op = .alloc t) (hd : o.dst = some d) (h : K (a.put (some d) (.pointer (some ⟨w.heap.size, 0, none⟩))) (w.alloc (.cells z.toArray t))) : wpOp P ops QF i K a w := by
  refine wpOp_of_one hi (wpList_plain hg fun K1 hK1 => ?_)
  unfold Oper.wp execOp
  simp only [ha, Sem.run_bind, hal w, Result.andThen_ok, Sem.run_pure, Oper.upon]
  refine hK1 _ _ ⟨rfl, ?_⟩
  rw [hd]
  exact h
theorem late_all {K : Act → World → Prop} (hal : ∀ w, (Instr.alloc t true (.tuple #[])).run P w = .ok (.pointer (some ⟨w.heap.size, 0, none⟩)) (w.alloc (.cells z.toArray t))) (hsel : Region.noSelect ops = true) (hk : ops[k]? = some ok) (hg : ok.guard = none) (ha : ok.op = .alloc t) (hd : ok.dst = some d) (pl2 : List (Bool × Nat)) :
    ∀ (pl : List (Bool × Nat)) (listed : Array Bool) (a : Act) (w : World), lateB md ops k pl2 pl listed = true → Rw w0 w → wpPlanM P ops F w0 (lateK P ops F w0 K t z d pl2) pl a w →
      Pl.wpDr P md ops F w0 K (pl.length + pl2.length + 1) listed a w
  | [], listed, a, w, hB, hw, h => by
    have hB0 := hB
    simp only [lateB, Bool.and_eq_true, decide_eq_true_eq] at hB
    refine ⟨fun e => (by rw [hB.1] at e; cases e), fun j hj w1 h1 => ?_⟩
    rw [hB.1] at hj
    obtain rfl : j = k := by simpa using hj
    have hw1 := Rw.trans hw h1
    have hw2 : Rw w1 (w1.alloc (.cells z.toArray t)) := below1 w1 _
    refine op_make hal hk hg ha hd ⟨(Keeps.of_below (F := F) (Rw.trans hw1 hw2)), ?_⟩
    exact late_done hsel hk hd pl2 _ hw1.size [] listed a _ hB0 (Keeps.of_below (Rw.trans hw1 hw2)) (Blk.new w1 t z) (wpPlanM_drift [] a w _ h (Rw.trans h1 hw2))
  | (true, i) :: r, listed, a, w, hB, hw, h => by
    simp only [lateB, Bool.and_eq_true, decide_eq_true_eq] at hB
    obtain ⟨o, h0, h⟩ := h
    rw [show ((true, i) :: r).length + pl2.length + 1 = (r.length + pl2.length + 1) + 1 by simp only [List.length_cons]; omega]
    by_cases hwt : Region.wanted o (yielded ops a.tmps) = true
    · simp only [hwt, if_true] at h
      obtain ⟨v, hv, hK⟩ := h
      exact Pl.wpDr_first h0 (Region.noSelect_spec hsel) _ listed a w (Region.free_spec h0 hB.1.1.1.1.2) hB.1.1.1.1.1.2 (.inl ⟨hwt, hv⟩) (Keeps.of_below hw) (late_all hal hsel hk hg ha hd pl2 r _ _ w hB.2 hw hK)
    · simp only [hwt] at h
      exact Pl.wpDr_first h0 (Region.noSelect_spec hsel) _ listed a w (Region.free_spec h0 hB.1.1.1.1.2) hB.1.1.1.1.1.2 (.inr ⟨by simpa using hwt, rfl⟩) (Keeps.of_below hw) (late_all hal hsel hk hg ha hd pl2 r _ _ w hB.2 hw h)
  | (false, i) :: r, listed, a, w, hB, hw, h => by
    have hB0 := hB
    have hp0 := h
    simp only [lateB, Bool.and_eq_true, decide_eq_true_eq, Bool.not_eq_true', List.all_eq_true] at hB
    obtain ⟨o, h0, h⟩ := h
    refine ⟨fun e => (by rw [e] at hB; exact absurd hB.1.1.1.1.2 (by simp)), fun j hj w1 h1 => ?_⟩
    have hw1 := Rw.trans hw h1
    rcases hB.1.1.1.2 j hj with rfl | rfl
    · have h2 := wpOp_of_one (K := fun a' w' => Rw w1 w' ∧ wpPlanM P ops F w0 (lateK P ops F w0 K t z d pl2) r a' w') h0 (h w1 h1)
      refine wpOp_mono (fun a' w' h' => ⟨Keeps.of_below (Rw.trans hw1 h'.1), ?_⟩) h2
      have := late_all hal hsel hk hg ha hd pl2 r _ a' w' hB.2 (Rw.trans hw1 h'.1) h'.2
      rw [show ((false, j) :: r).length + pl2.length = r.length + pl2.length + 1 by simp only [List.length_cons]; omega]
      exact this
    · have hw2 : Rw w1 (w1.alloc (.cells z.toArray t)) := below1 w1 _
      refine op_make hal hk hg ha hd ⟨(Keeps.of_below (F := F) (Rw.trans hw1 hw2)), ?_⟩
      exact late_done hsel hk hd pl2 _ hw1.size ((false, i) :: r) listed a _ hB0 (Keeps.of_below (Rw.trans hw1 hw2)) (Blk.new w1 t z) (wpPlanM_drift _ a w _ hp0 (Rw.trans h1 hw2))
end
def regionB (ops : Array Oper) (k : Nat) (pl pl2 : List (Bool × Nat)) : Bool := Region.noSelect ops && decide (pl.length + pl2.length + 1 = ops.size) && lateB .any ops k pl2 pl (Array.replicate ops.size false)
theorem wp_region_late {id : Nat} {Q : Exit → Act → World → Prop} {a : Act} {w : World} {l : List Oper} (F : Nat → Prop) (k : Nat) (pl pl2 : List (Bool × Nat)) {t : TypeId} {z : List Value} {ok : Oper} {d : Tmp}
    (hal : ∀ w, (Instr.alloc t true (.tuple #[])).run P w = .ok (.pointer (some ⟨w.heap.size, 0, none⟩)) (w.alloc (.cells z.toArray t))) (hk : l.toArray[k]? = some ok) (hg : ok.guard = none) (ha : ok.op = .alloc t) (hd : ok.dst = some d)
    (hm : P.follows .mixedOrders = true) (hB : regionB l.toArray k pl pl2 = true)
    (h : wpPlanM P l.toArray F w.drew (lateK P l.toArray F w.drew (fun a' w' => Q .normal a' w') t z d pl2) pl a w.drew) : (Code.region id l.toArray true).wp P Q a w := by
  simp only [regionB, Bool.and_eq_true, decide_eq_true_eq] at hB
  refine wp_region_any hm ?_
  have G := late_all hal hB.1.1 hk hg ha hd pl2 pl (Array.replicate l.toArray.size false) a w.drew hB.2 (Rw.refl _) h
  rw [hB.1.2] at G
  exact Pl.wpAny_of_dr (fun _ _ h => h) _ _ _ _ G
theorem nil {K : Act → World → Prop} {a : Act} {w : World} (h : ∀ w1, Rw w w1 → K a w1) : wpPlanM P ops F w0 K [] a w := h
theorem head {K' : Act → World → Prop} {i : Nat} {r : List (Bool × Nat)} {a : Act} {w : World} {o : Oper} (hi : ops[i]? = some o)
    (h : ∀ K : Act → Prop, (∀ a, wpPlanM P ops F w0 K' r a w → K a) → if Region.wanted o (yielded ops a.tmps) then ∃ v, (∀ w, Keeps F w0 w → o.quietAt P a (Rw w) w v) ∧ K (a.put o.dst v) else K (a.put o.dst undef)) : wpPlanM P ops F w0 K' ((true, i) :: r) a w :=
  ⟨o, hi, h _ (fun _ h => h)⟩
theorem sole {K' : Act → World → Prop} {i : Nat} {r : List (Bool × Nat)} {a : Act} {w : World} {o : Oper} (hi : ops[i]? = some o)
    (h : ∀ w1, Rw w w1 → ∀ Q' : Exit → Act → World → Prop, (∀ a' w', Rw w1 w' → wpPlanM P ops F w0 K' r a' w' → Q' .normal a' w') → wpList P ops Q' [o] a w1) : wpPlanM P ops F w0 K' ((false, i) :: r) a w :=
  ⟨o, hi, fun w1 h1 => h w1 h1 _ fun _ _ h2 h3 => ⟨rfl, h2, h3⟩⟩
end Go.Proofs.YtkhdhiddhnmdkaaGreatDoor.Pm

namespace Go.Proofs.YtkhdhiddhnmdkaaGreatDoor
open Go.RowKit
namespace Eds
end Eds
end Go.Proofs.YtkhdhiddhnmdkaaGreatDoor

namespace Go.Proofs.YtkhdhiddhnmdkaaGreatDoor
open Go.RowKit Sha
namespace Eds
abbrev tS : TypeId := 75
theorem s_size : (Tryz.prog.info? tS).map (·.size) = some 33 := by kernel_rfl
def secV (a : List UInt8) (p : ByteArray) : List Value := bvals a ++ [.string p]
theorem secV_len (a : List UInt8) (p : ByteArray) (h : a.length = 32) : (secV a p).length = 33 := by simp [secV, bvals_len, h]
theorem secV_one (a : List UInt8) (p : ByteArray) : ∀ v ∈ secV a p, v.oneCell' = true := by
  intro v hv
  unfold secV at hv
  rcases List.mem_append.1 hv with h | h
  · exact bone a v h
  · have : v = .string p := by simpa using h
    subst this
    rfl
theorem conv_mid {w : World} {b : Nat} {t : TypeId} {S : List UInt8} (h : Blk w b t (bvals S)) (k n cap : Nat) (hn : k + n = S.length) : (convert 50 9 (.slice (some ⟨b, k, none⟩) n cap)).run Tryz.prog w = .ok (.string (by8 (S.drop k))) w := by
  have hl : (S.drop k).length = n := by rw [List.length_drop]; omega
  subst hl
  refine run_convert_bytes_back w 50 9 5 ⟨b, k, none⟩ cap (S.drop k) Tryz.underlying50 Tryz.underlying5 Tryz.underlying9 (fun j hj => ?_)
  rw [Addr.add_mid]
  rw [h.cell (k + j) (.int .u8 ((S.drop k)[j].toNat : Nat)) (by
    unfold bvals
    rw [List.getElem?_map, ← List.getElem?_drop, List.getElem?_eq_getElem hj]
    rfl)]
theorem run_bldS (a : List UInt8) (p : ByteArray) (ha : a.length = 32) (w : World) : (Instr.build tS #[(0, .agg (bvals a).toArray), (1, .string p)]).run Tryz.prog w = .ok (.agg (secV a p).toArray) w := by
  match a, ha with
  | [a0, a1, a2, a3, a4, a5, a6, a7, a8, a9, a10, a11, a12, a13, a14, a15, a16, a17, a18, a19, a20, a21, a22, a23, a24, a25, a26, a27, a28, a29, a30, a31], _ => exact run_build w tS _ _ (by kernel_rfl)
theorem run_bldS' {a : Act} {o : Oper} {x y : Operand} {l : List UInt8} {p : ByteArray} (ho : o.op = .build tS #[(0, x), (1, y)]) (hx : a.eval x = .agg (bvals l).toArray) (hy : a.eval y = .string p) (hl : l.length = 32) (w : World) :
    (execOp a.eval o).run Tryz.prog w = .ok (.value (.agg (secV l p).toArray)) w := by
  have h := run_bldS l p hl w
  unfold execOp
  simp only [ho]
  simp [hx, hy, h]
set_option maxHeartbeats 4000000 in
set_option maxRecDepth 100000 in
theorem open_ok {T F : List Int} (l : List UInt8) (w : World) (hl : l.length = 32) (hT : ShaT w T F) (hg : ShaG w) (S : List UInt8) (hS : S = S512 T F l) :
    Calls Tryz.prog 34 #[.agg (bvals l).toArray] w fun e w' => e = .returned (.agg (secV (kc (S.take 32)) (by8 (S.drop 32))).toArray) ∧ Below w.heap.size w w' := by
  have LS : S.length = 64 := by rw [hS]; exact S512_len hT _
  have HC := Lib.hid (fun bk ty w' (hb : Below w.heap.size w w') (hB : Blk w' bk ty [.string (by8 l)]) => by
    have h := sum512_at hT hg bk ty [by8 l] 1 1 rfl (Nat.le_of_ble_eq_true rfl) (Nat.le_of_ble_eq_true rfl) (by rw [catL_one]; omega) hb hB
    rw [catL_one, ← hS] at h
    exact h)
  clear hS hT hg
  obtain ⟨kz, hkz⟩ : ∃ kz, kz = kc (S.take 32) := ⟨_, rfl⟩
  rw [← hkz]
  have HKZ := Lib.hid hkz
  clear hkz
  go_enter Tryz.func34, Tryz.ntmps34
  go_upto_region 1 with fail
  refine wp_gen (fun wx => Blk wx w.heap.size tB (bvals l) ∧ Blk wx (w.heap.size + 1) tS (secV (List.replicate 32 0) ⟨#[]⟩) ∧ Below w.heap.size w wx) ⟨(Blk.new w _ _).alloc _, Blk.new2 _ _ _ (secV (List.replicate 32 0) ⟨#[]⟩), below2 _ _ _⟩ ?_
  rintro w1 ⟨O1, O2, BW⟩
  have H2 : Hid (Below w.heap.size w w1 ∧ ∀ o, Blk (w1.alloc o) (w.heap.size + 1) tS (secV (List.replicate 32 0) ⟨#[]⟩)) := Lib.hid ⟨BW, fun o => O2.alloc o⟩
  have HB2 := Lib.hid (fun o => BW.alloc BW.size o)
  clear BW O2
  go_wp2_with (refine conv_step hl O1 rfl rfl rfl ?_)
  refine (HC.out w1.heap.size _ _ (HB2.out _) (Blk.new w1 _ [.string (by8 l)])).mono ?_
  rintro e w3 ⟨rfl, hb⟩
  have O2 : Blk w3 (w.heap.size + 1) tS (secV (List.replicate 32 0) ⟨#[]⟩) := (H2.out.2 _).below hb (H2.out.2 _).lt
  have BW : Below w.heap.size w w3 := (HB2.out _).trans (hb.mono (HB2.out _).size)
  clear hb H2 HB2 O1 HC
  have LSV : Hid ((byv S).length = 64) := Lib.hid (by rw [byv_len]; exact LS)
  have LZ : Hid ((byv (List.replicate 64 (0 : UInt8))).length = 64) := Lib.hid rfl
  have g3 : w.heap.size + 1 < w3.heap.size := O2.lt
  have H3 := Lib.hid (And.intro O2 BW)
  clear O2 BW
  go_upto_region 2 with (refine store_blk (Blk.new w3 55 (byv (List.replicate 64 0))) arr64s_size LSV.out LZ.out (byv_one _) rfl rfl rfl rfl ?_)
  refine wp_gen (fun wx => Blk wx w3.heap.size 55 (bvals S) ∧ Blk wx (w.heap.size + 1) tS (secV (List.replicate 32 0) ⟨#[]⟩) ∧ Below w.heap.size w wx) ⟨(Blk.new w3 55 (byv (List.replicate 64 0))).setRow _, (H3.out.1.alloc _).farRow (by omega) _, below_row (H3.out.2.alloc H3.out.2.size _) _ _ (by omega)⟩ ?_
  clear H3
  rintro w4 ⟨O3, O2, BW⟩
  generalize w3.heap.size = c3 at *
  have hat := fun w' => run_arrayAt (P := Tryz.prog) Tryz.underlying48 ⟨c3, 0, none⟩ 32 64 (Nat.le_refl _) w'
  have LK : (S.take 32).length = 32 := by rw [List.length_take]; omega
  have R3 : w4.rangeAt c3 0 (bvals (S.take 32)) := fun j v hv => by
    refine O3.cell (0 + j) v ?_
    rw [Nat.zero_add]
    have hj : j < (bvals (S.take 32)).length := (List.getElem?_eq_some_iff.1 hv).1
    rw [bvals_len, LK] at hj
    unfold bvals at hv ⊢
    rw [List.map_take, List.getElem?_take_of_lt hj] at hv
    exact hv
  have RH := Lib.hid R3
  clear R3
  go_upto_region 3 with (first | refine wpList_load_mid rfl 48 _ rfl c3 0 rfl (bvals (S.take 32)) _ RH.out Tryz.underlying48 rfl (by rw [blen LK]; exact arr32_size) ?_ | refine new1B rfl rfl rfl rfl rfl LK (by go_simp) (by go_simp) (fun w5 O4 hb => ?_))
  have n3 : c3 < w4.heap.size := O3.lt
  replace O3 := O3.below hb O3.lt
  replace O2 := O2.below hb O2.lt
  replace BW := BW.trans (hb.mono BW.size)
  clear hb RH hat
  have n4 : w.heap.size + 1 < w4.heap.size := by omega
  generalize w4.heap.size = c4 at *
  obtain ⟨ls, hls⟩ : ∃ ls, ls = S.take 32 := ⟨_, rfl⟩
  have KL : (kc ls).length = 32 := by rw [kc_len, hls]; exact LK
  have HKL : Hid (kc ls = kz) := by show _ = _; rw [HKZ.out, hls]
  rw [← hls] at LK O4 ⊢
  clear hls
  have c0 := O4.cell 0 _ (bvals_get ls 0 (by rw [LK]; omega))
  have f0 := O4.free 0
  have h0 := (ls.getD 0 0).toNat_lt
  have N0 := O4.bset 0 ((ls.getD 0 0).toNat / 8 * 8) (by omega)
  generalize hx0 : (ls.getD 0 0).toNat = x0 at *
  have E0 := andNot7 x0 h0
  go_simp
  go_upto_region 4 with fail
  try rw [E0]
  clear E0
  refine wp_gen (fun wx => Blk wx c4 tB (bvals (ls.set 0 (UInt8.ofNat (x0 / 8 * 8)))) ∧ Blk wx c3 55 (bvals S) ∧ Blk wx (w.heap.size + 1) tS (secV (List.replicate 32 0) ⟨#[]⟩) ∧ Below w.heap.size w wx) ⟨N0, O3.far (by omega) _ _, O2.far (by omega) _ _, below_set' BW _ _ _ (by omega)⟩ ?_
  clear c0 f0 N0 O2 O3 O4 BW
  rintro w6 ⟨O4, O3, O2, BW⟩
  have e31 : (ls.set 0 (UInt8.ofNat (x0 / 8 * 8))).getD 31 0 = ls.getD 31 0 := by rw [List.getD_eq_getElem?_getD, List.getElem?_set_ne (by omega), ← List.getD_eq_getElem?_getD]
  have c0 := O4.cell 31 _ (bvals_get _ 31 (by rw [List.length_set, LK]; omega))
  have f0 := O4.free 31
  rw [e31] at c0
  have h31 := (ls.getD 31 0).toNat_lt
  have N0 := O4.bset 31 ((ls.getD 31 0).toNat % 64 + 64) (by omega)
  have EK : Hid ((ls.set 0 (UInt8.ofNat (x0 / 8 * 8))).set 31 (UInt8.ofNat ((ls.getD 31 0).toNat % 64 + 64)) = kc ls) := by rw [← hx0]; rfl
  rw [EK.out] at N0
  clear EK e31 hx0
  generalize (ls.getD 31 0).toNat = x31 at *
  have E0 := or64 x31
  go_upto_region 5 with fail
  try rw [E0]
  clear E0
  refine wp_gen (fun wx => Blk wx c4 tB (bvals (kc ls)) ∧ Blk wx c3 55 (bvals S) ∧ Blk wx (w.heap.size + 1) tS (secV (List.replicate 32 0) ⟨#[]⟩) ∧ Below w.heap.size w wx) ⟨N0, O3.far (by omega) _ _, O2.far (by omega) _ _, below_set' BW _ _ _ (by omega)⟩ ?_
  clear c0 f0 N0 O2 O3 O4 BW h31 h0
  rintro w7 ⟨O4, O3, O2, BW⟩
  rw [HKL.out] at O4 KL
  have Dr : Below w7.heap.size w7 w7.drew := below_drewN (Below.refl _ _) 1
  have M4 := O4.below Dr O4.lt
  have M3 := O3.below Dr O3.lt
  have CV := fun (w' : World) (h : Below w7.drew.heap.size w7.drew w') => conv_mid (M3.below h M3.lt) 32 32 32 (by rw [LS])
  (refine wp_region_quiet_tail (C := fun w' => Below w7.drew.heap.size w7.drew w') 4 (by kernel_rfl) (by kernel_rfl) (Below.refl _ _) ?_; simp only [List.take_succ_cons, List.take_zero, List.drop_succ_cons, List.drop_zero])
  ((with_reducible refine wpQuiet_step (fun K hK => ?_)); refine quiet_loadB (n := 32) (fun w' hw' => M4.below hw' M4.lt) Tryz.underlying48 rfl (by kernel_rfl) (blen KL) (by first | rfl | simp [Region.wanted, yielded]) rfl (by go_simp) ?_; go_simp; (with_reducible apply hK); clear hK K)
  ((with_reducible refine wpQuiet_step (fun K hK => ?_)); refine quiet_plainG (.slice (some ⟨c3, 32, none⟩) 32 32) (by first | rfl | simp [Region.wanted, yielded]) (fun w' hw' => by go_simp) ?_; go_simp; (with_reducible apply hK); clear hK K)
  ((with_reducible refine wpQuiet_step (fun K hK => ?_)); refine quiet_plainG (.string (by8 (S.drop 32))) (by first | rfl | simp [Region.wanted, yielded]) (fun w' hw' => by have h := CV w' hw'; go_simp; try simp [h]) ?_; go_simp; (with_reducible apply hK); clear hK K)
  ((with_reducible refine wpQuiet_step (fun K hK => ?_)); refine quiet_plainG _ (by first | rfl | simp [Region.wanted, yielded]) (fun w' _ => run_bldS' rfl rfl rfl KL w') ?_; go_simp; (with_reducible apply hK); clear hK K)
  refine wpQuiet_nil ?_
  intro w8 hw8
  have HB := Dr.trans (hw8.mono Dr.size)
  replace O2 := O2.below HB O2.lt
  replace BW := BW.trans (HB.mono BW.size)
  go_simp
  go_wp2_with (refine store_blk (n := 33) O2 s_size (secV_len _ _ KL) (secV_len _ _ rfl) (secV_one _ _) rfl rfl rfl rfl ?_)
  exact ret_blk rfl (O2.setRow _) Tryz.underlying75 rfl s_size (secV_len _ _ KL) rfl rfl ⟨rfl, below_row BW _ _ (by omega)⟩
end Eds
end Go.Proofs.YtkhdhiddhnmdkaaGreatDoor

namespace Go.Proofs.YtkhdhiddhnmdkaaGreatDoor
open Go.RowKit Sha
namespace Eds
/-- a point's bytes -/
def encP (P : Ed.Pt) : List UInt8 := encL P.x P.y
theorem encP_len (P : Ed.Pt) : (encP P).length = 32 := encL_len _ _
theorem bytes_p {lp : List Nat} {P : Ed.Pt} (h : PtV lp P) (w : World) : Calls Tryz.prog 35 #[.agg (uvals lp).toArray] w fun e w' => e = .returned (.agg (bvals (encP P)).toArray) ∧ Below w.heap.size w w' := by
  obtain ⟨X, Y, Z, T, hc, he⟩ := h
  have h := bytes_pt lp X Y Z T w hc
  rw [he.quot.1, he.quot.2] at h
  exact h
theorem list32 {l : List UInt8} (h : l.length = 32) : ∃ a0 a1 a2 a3 a4 a5 a6 a7 a8 a9 a10 a11 a12 a13 a14 a15 a16 a17 a18 a19 a20 a21 a22 a23 a24 a25 a26 a27 a28 a29 a30 a31, l = [a0, a1, a2, a3, a4, a5, a6, a7, a8, a9, a10, a11, a12, a13, a14, a15, a16, a17, a18, a19, a20, a21, a22, a23, a24, a25, a26, a27, a28, a29, a30, a31] := by
  match l, h with
  | [a0, a1, a2, a3, a4, a5, a6, a7, a8, a9, a10, a11, a12, a13, a14, a15, a16, a17, a18, a19, a20, a21, a22, a23, a24, a25, a26, a27, a28, a29, a30, a31], _ => exact ⟨a0, a1, a2, a3, a4, a5, a6, a7, a8, a9, a10, a11, a12, a13, a14, a15, a16, a17, a18, a19, a20, a21, a22, a23, a24, a25, a26, a27, a28, a29, a30, a31, rfl⟩
theorem run_fieldS (a : List UInt8) (p : ByteArray) (ha : a.length = 32) (w : World) : (Instr.field tS (.agg (secV a p).toArray) 0).run Tryz.prog w = .ok (.agg (bvals a).toArray) w := by
  obtain ⟨a0, a1, a2, a3, a4, a5, a6, a7, a8, a9, a10, a11, a12, a13, a14, a15, a16, a17, a18, a19, a20, a21, a22, a23, a24, a25, a26, a27, a28, a29, a30, a31, rfl⟩ := list32 ha
  kernel_rfl
theorem plan_loadN {P : Program} {ops : Array Oper} {F : Nat → Prop} {w0 : World} {a : Act} {o : Oper} {K : Act → Prop} {b off ty : Nat} {d : TypeDesc} {x : Operand} {cs : List Value} (hb : ∀ w, Keeps F w0 w → w.rangeAt b off cs)
    (hu : P.underlying ty = some d) (hd : d.isRow = true) (hi : (P.info? ty).map (·.size) = some cs.length) (hg : Region.wanted o (yielded ops a.tmps) = true) (ho : o.op = .load ty x) (hx : a.eval x = .pointer (some ⟨b, off, none⟩)) (h : K (a.put o.dst (.agg cs.toArray))) :
    if Region.wanted o (yielded ops a.tmps) then ∃ v, (∀ w, Keeps F w0 w → o.quietAt P a (Rw w) w v) ∧ K (a.put o.dst v) else K (a.put o.dst undef) :=
  Pl.plan_plain (.agg cs.toArray) hg (fun w hw => by
    unfold execOp
    simp only [ho, hx, run_loadAt_mid w b off ty cs _ (hb w hw) hu hd hi, Sem.run_bind, Sem.run_pure, Result.andThen_ok]) h
set_option maxHeartbeats 4000000 in
set_option maxRecDepth 100000 in
theorem key_ok {T F : List Int} (l : List UInt8) (w : World) (hl : l.length = 32) (hT : ShaT w T F) (hg : ShaG w) (S : List UInt8) (hS : S = S512 T F l) :
    Calls Tryz.prog 21 #[.agg (bvals l).toArray] w fun e w' => e = .returned (.agg (bvals (encP (Ed.smul (KN (S.take 32)) Ed.B))).toArray) ∧ Below w.heap.size w w' := by
  have LS : S.length = 64 := by rw [hS]; exact S512_len hT _
  have LK : (kc (S.take 32)).length = 32 := by rw [kc_len, List.length_take]; omega
  have OP := Lib.hid (fun w' (hb : Below w.heap.size w w') => open_ok l w' hl (hT.below hb) (show ShaG w' from ⟨Nat.lt_of_lt_of_le hg.1 hb.size, Nat.lt_of_lt_of_le hg.2 hb.size⟩) S hS)
  unfold KN
  generalize kc (S.take 32) = ks at *
  generalize by8 (S.drop 32) = pf at *
  have LE := encP_len (Ed.smul (le8 ks) Ed.B)
  have MP := fun b lb lp (w' : World) (hc : CvE w' b lb) (hp : PtV lp Ed.B) => mult_pt b lb lp Ed.B ks w' LK hc hp
  have BP := fun lp (hp : PtV lp (Ed.smul (le8 ks) Ed.B)) (w' : World) => bytes_p hp w'
  generalize Ed.smul (le8 ks) Ed.B = R at *
  generalize encP R = en at *
  clear hS hT hg LS
  go_enter Tryz.func21, Tryz.ntmps21
  go_upto_region 1 with fail
  refine wp_gen (fun wx => Blk wx w.heap.size tB (bvals l) ∧ Blk wx (w.heap.size + 1) tB (List.replicate 32 (.int .u8 0)) ∧ Below w.heap.size w wx) ⟨(Blk.new w _ _).alloc _, Blk.new2 _ _ _ (List.replicate 32 (.int .u8 0)), below2 _ _ _⟩ ?_
  rintro w1 ⟨O1, O2, BW⟩
  go_wp2_with fail
  refine (begin_ok w1).mono ?_
  rintro e w2 ⟨b, lb, rfl, CV, PB, hb⟩
  replace O1 := O1.below hb O1.lt
  replace O2 := O2.below hb O2.lt
  replace BW := BW.trans (hb.mono BW.size)
  clear hb
  go_upto_region 2 with fail
  obtain ⟨ld, lt, OC, Ld, Lt, LB⟩ := CV.parts
  have D1 : Below w2.heap.size w2 w2.drew := below_drewN (Below.refl _ _) 1
  have M1 := O1.below D1 O1.lt
  have M2 := O2.below D1 O2.lt
  have MC := OC.below D1 OC.lt
  have BD := BW.trans (D1.mono BW.size)
  have hbb : b ≠ w.heap.size + 1 := fun e => by
    rw [e] at OC
    exact absurd (blk_type OC O2) (by decide)
  have U9 : (uvals lb).length = 20 := by rw [uvals_len, LB]
  (refine Pl.wp_region_plan (fun k => k = w.heap.size + 1) [(true, 0), (true, 1), (true, 2), (true, 3), (true, 4), (true, 5), (true, 6), (true, 7), (false, 8), (false, 9), (false, 10)] (by kernel_rfl) (by kernel_rfl) ?_)
  (refine Pl.plan_head (i := 0) rfl (fun K hK => ?_); refine Pl.plan_plain (.pointer (some ⟨b, 0, none⟩)) (by first | rfl | simp [Region.wanted, yielded]) (fun w' hw' => by go_simp) ?_; go_simp; (with_reducible apply hK); clear hK K)
  (refine Pl.plan_head (i := 1) rfl (fun K hK => ?_); refine Pl.plan_load (fun w' hw' => hw'.blk M1 (by omega)) Tryz.underlying48 rfl arr32_size (blen hl) (by first | rfl | simp [Region.wanted, yielded]) rfl (by go_simp) ?_; go_simp; (with_reducible apply hK); clear hK K)
  (refine Pl.plan_head (i := 2) rfl (fun K hK => ?_); refine Pl.plan_call (.agg (secV ks pf).toArray) 34 #[.agg (bvals l).toArray] (by first | rfl | simp [Region.wanted, yielded]) (fun w' => by go_simp) (fun w' hw' => OP.out w' (BD.trans (hw'.below BD.size (fun k hk e => by omega)))) ?_; go_simp; (with_reducible apply hK); clear hK K)
  (refine Pl.plan_head (i := 3) rfl (fun K hK => ?_); refine Pl.plan_plain (.agg (bvals ks).toArray) (by first | rfl | simp [Region.wanted, yielded]) (fun w' hw' => by have h := run_fieldS ks pf LK w'; go_simp; try simp [h]) ?_; go_simp; (with_reducible apply hK); clear hK K)
  (refine Pl.plan_head (i := 4) rfl (fun K hK => ?_); refine Pl.plan_plain (.pointer (some ⟨b, 0, none⟩)) (by first | rfl | simp [Region.wanted, yielded]) (fun w' hw' => by go_simp) ?_; go_simp; (with_reducible apply hK); clear hK K)
  (refine Pl.plan_head (i := 5) rfl (fun K hK => ?_); refine Pl.plan_plain (.pointer (some ⟨b, 0, none⟩)) (by first | rfl | simp [Region.wanted, yielded]) (fun w' hw' => by go_simp) ?_; go_simp; (with_reducible apply hK); clear hK K)
  (refine Pl.plan_head (i := 6) rfl (fun K hK => ?_); refine Pl.plan_plain (.pointer (some ⟨b, 10, none⟩)) (by first | rfl | simp [Region.wanted, yielded]) (fun w' hw' => by go_simp) ?_; go_simp; (with_reducible apply hK); clear hK K)
  (refine Pl.plan_head (i := 7) rfl (fun K hK => ?_); refine plan_loadN (b := b) (off := 10) (cs := uvals lb) (fun w' hw' => rgE (p := ld ++ lt) (l := lb) (by rw [List.append_assoc]; exact hw'.blk MC hbb) (by rw [List.length_append, Ld.len, Lt.len])) Tryz.underlying72 rfl (by rw [U9]; exact q_size) (by first | rfl | simp [Region.wanted, yielded]) rfl (by go_simp) ?_; go_simp; (with_reducible apply hK); clear hK K)
  refine Pl.plan_sole (i := 8) rfl (fun w3 h3 Q hQ => ?_)
  go_wp2_with fail
  have B3 := BD.trans (h3.mono BD.size)
  refine (MP b lb lb w3 ((CV.below D1).below h3) PB).mono ?_
  rintro e w4 ⟨lo, rfl, PO, hb⟩
  go_wp2_with fail
  refine hQ _ _ (Keeps.of_below (Rw.trans h3 hb)) ?_
  clear hQ Q
  go_simp
  refine Pl.plan_sole (i := 9) rfl (fun w5 h5 Q hQ => ?_)
  go_wp2_with fail
  refine (BP lo PO w5).mono ?_
  rintro e w6 ⟨rfl, hb6⟩
  have R6 : Rw w2.drew w6 := Rw.trans (Rw.trans (Rw.trans h3 hb) h5) hb6
  go_wp2_with fail
  refine hQ _ _ (Keeps.of_below R6) ?_
  clear hQ Q h3 hb h5 hb6
  go_simp
  refine Pl.plan_sole (i := 10) rfl (fun w7 h7 Q hQ => ?_)
  have R7 : Rw w2.drew w7 := Rw.trans R6 h7
  have N2 := M2.below R7 M2.lt
  refine store_ar N2 rfl LE rfl rfl (by go_simp) (by go_simp) ?_
  unfold wpList
  refine hQ _ _ ((Keeps.of_below R7).row _ _ (fun _ => rfl)) ?_
  clear hQ Q
  go_simp
  refine Pl.plan_nil (fun wz hz => ?_)
  have NZ := (N2.setRow (bvals en)).below hz (N2.setRow (bvals en)).lt
  have B7 := below_row (BD.trans (R7.mono BD.size)) (w.heap.size + 1) (bvals en).toArray (by omega)
  have BZ := B7.trans (hz.mono (by have := B7.size; exact this))
  clear M1 M2 MC N2 R6 R7 h7 hz B7 B3
  go_simp
  go_wp2_with fail
  exact ret_blk rfl NZ Tryz.underlying48 rfl arr32_size (blen LE) rfl rfl ⟨rfl, BZ⟩
end Eds
end Go.Proofs.YtkhdhiddhnmdkaaGreatDoor

namespace Go.Proofs.YtkhdhiddhnmdkaaGreatDoor
open Go.RowKit Sha
set_option maxRecDepth 100000
namespace Eds
/-- the number of a sum of 64 bytes, reduced -/
def redL (S : List UInt8) : List UInt8 := leBytes (le8 S % Lq) 32
theorem redL_len (S : List UInt8) : (redL S).length = 32 := leBytes_length _ _
theorem cut64_by8 (S : List UInt8) (h : S.length = 64) : cut64 (by8 S) = by8 S := if_pos (by rw [by8_size]; omega)
set_option maxHeartbeats 2000000 in
theorem ered_ok {T F : List Int} {w0 : World} (hT : ShaT w0 T F) (hg : ShaG w0) (ho : Ordr w0) (h0 : 6 < w0.heap.size) (bk : Nat) (ty : TypeId) (xs : List ByteArray) (n c : Nat) (hn : n = xs.length) (hxl : xs.length ≤ 1000) (hcap : xs.length ≤ c) (hlen : (catL xs).length ≤ 1000000)
    {w : World} (hb : Below w0.heap.size w0 w) (hB : Blk w bk ty (xs.map .string)) :
    Calls Tryz.prog 44 #[.slice (some ⟨bk, 0, none⟩) n c] w fun e w' => e = .returned (.agg (bvals (redL (S512 T F (catL xs)))).toArray) ∧ Below w.heap.size w w' := by
  have HC := Lib.hid (fun w' (hb' : Below w0.heap.size w0 w') (hB' : Blk w' bk ty (xs.map .string)) => sum512_at hT hg bk ty xs n c hn hxl hcap hlen hb' hB')
  obtain ⟨S, hS⟩ : ∃ S, S = S512 T F (catL xs) := ⟨_, rfl⟩
  have LS : S.length = 64 := by rw [hS]; exact S512_len hT _
  rw [← hS] at HC ⊢
  have HR : Hid (∀ w', Below w0.heap.size w0 w' → Calls Tryz.prog 75 #[.string (by8 S)] w' fun e w'' => e = .returned (.agg (bvals (leBytes (le8 S % Lq) 32)).toArray) ∧ Below w'.heap.size w' w'') := Lib.hid (fun w' (hb' : Below w0.heap.size w0 w') => by
    have h := reduce_ok (by8 S) w' (ho.below hb' h0) (Nat.lt_of_lt_of_le h0 hb'.size)
    rw [cut64_by8 S LS] at h
    exact h)
  clear hS hT hg ho hlen hn
  have LR := redL_len S
  unfold redL at LR ⊢
  generalize leBytes (le8 S % Lq) 32 = r at *
  go_enter Tryz.func44, Tryz.ntmps44
  go_upto_region 1 with fail
  refine wp_gen (fun wx => Blk wx w.heap.size tB (bvals (List.replicate 32 0)) ∧ Blk wx bk ty (xs.map .string) ∧ Below w.heap.size w wx) ⟨Blk.new w _ _, hB.alloc _, below1 _ _⟩ ?_
  clear hB
  rintro w1 ⟨O1, OB, BW⟩
  have B1 := hb.trans (BW.mono hb.size)
  go_wp2_with fail
  refine (HC.out w1 B1 OB).mono ?_
  rintro e w2 ⟨rfl, hb2⟩
  replace O1 := O1.below hb2 O1.lt
  replace BW := BW.trans (hb2.mono BW.size)
  clear hb2 OB B1 HC
  have LSV : Hid ((byv S).length = 64) := Lib.hid (by rw [byv_len]; exact LS)
  have LZ : Hid ((byv (List.replicate 64 (0 : UInt8))).length = 64) := Lib.hid rfl
  have g3 : w.heap.size < w2.heap.size := O1.lt
  go_upto_region 2 with (refine store_blk (Blk.new w2 55 (byv (List.replicate 64 0))) arr64s_size LSV.out LZ.out (byv_one _) rfl rfl rfl rfl ?_)
  refine wp_gen (fun wx => Blk wx w2.heap.size 55 (bvals S) ∧ Blk wx w.heap.size tB (bvals (List.replicate 32 0)) ∧ Below w.heap.size w wx) ⟨(Blk.new w2 55 (byv (List.replicate 64 0))).setRow _, (O1.alloc _).farRow (by omega) _, below_row (BW.alloc BW.size _) _ _ (by omega)⟩ ?_
  clear O1 BW
  rintro w4 ⟨O3, O1, BW⟩
  generalize w2.heap.size = c3 at *
  have CV := conv_mid O3 0 64 64 (by rw [LS])
  rw [List.drop_zero] at CV
  have B4 := hb.trans (BW.mono hb.size)
  go_wp2_with fail
  refine (HR.out w4 B4).mono ?_
  rintro e w5 ⟨rfl, hb5⟩
  replace O1 := O1.below hb5 O1.lt
  replace BW := BW.trans (hb5.mono BW.size)
  clear hb5 HR B4 CV O3
  go_wp2_with (refine store_ar O1 rfl LR rfl rfl (by go_simp) (by go_simp) ?_)
  exact ret_blk rfl (O1.setRow (bvals r)) Tryz.underlying48 rfl arr32_size (blen LR) rfl rfl ⟨rfl, below_row BW _ _ (Nat.le_refl _)⟩
end Eds
end Go.Proofs.YtkhdhiddhnmdkaaGreatDoor
