/-
A region that draws its order, walked by a plan: a list of its operations, each of which either floats (it reads, or makes memory of its own, and nothing that is left touches it) or is the only one that may come. One walk of the plan serves every order. The sole ones may write blocks of F, which no floating one reads.
A region that draws its order, walked by a plan that may fork: as Plan, but where two operations may come and neither floats, both ways are walked.
-/
import Derived.Test.YtcbkbjpdfanjpaaGreatDoorPk04
namespace Go.Proofs.YtcbkbjpdfanjpaaGreatDoor.Pl
open Go.RowKit
variable {P : Program} {md : Region.Mode} {ops : Array Oper} {w0 : World} {F : Nat → Prop}

theorem _root_.Go.Proofs.YtcbkbjpdfanjpaaGreatDoor.Keeps.rw {a b c : World} (h : Keeps F a b) (k : Rw b c) : Keeps F a c := h.trans (Keeps.of_below (F := F) k) (fun _ _ h => h)
/-- in every world behind w0 operation o leaves v, and nothing but new blocks -/
def YieldsD (P : Program) (ops : Array Oper) (F : Nat → Prop) (w0 : World) (o : Oper) (v : Value) (a : Act) : Prop :=
  (Region.wanted o (yielded ops a.tmps) = true ∧ ∀ w, Keeps F w0 w → o.quietAt P a (Rw w) w v) ∨ (Region.wanted o (yielded ops a.tmps) = false ∧ v = undef)
theorem YieldsD.of_same {o : Oper} {v : Value} {a a' : Act} (hy : YieldsD P ops F w0 o v a) (he : execOp a'.eval o = execOp a.eval o)
    (hw : Region.wanted o (yielded ops a'.tmps) = Region.wanted o (yielded ops a.tmps)) : YieldsD P ops F w0 o v a' := by
  unfold YieldsD Oper.quietAt at *
  rw [he, hw]
  exact hy
theorem YieldsD.wpOp {i : Nat} {o : Oper} {v : Value} {a : Act} {w : World} (hi : ops[i]? = some o) (hy : YieldsD P ops F w0 o v a) (hw0 : Keeps F w0 w) {K : Act → World → Prop} {Q : Exit → Act → World → Prop}
    (h : ∀ w', Rw w w' → K (a.put o.dst v) w') : wpOp P ops Q i K a w := by
  unfold Go.wpOp
  simp only [hi]
  rcases hy with ⟨hw, hv⟩ | ⟨hw, rfl⟩
  · simp only [hw, if_true]
    refine .inl (Oper.wp_of_quiet (C := Rw w) (K := fun a' => a' = a.put o.dst v) (Rw.refl w) (fun a' w' hw' e => by subst e; exact h w' hw') ⟨v, fun w2 h2 => ?_, rfl⟩)
    exact quietUpon_mono (fun w' h' => h2.trans h') (hv w2 (hw0.rw h2))
  · simp only [hw, Bool.false_eq_true, if_false]; exact h w (Rw.refl w)
theorem wpOp_putD {j : Nat} {oi oj : Oper} {v : Value} (hj : ops[j]? = some oj) (hap : oi.apart ops oj = true)
    (hsi : ∀ cs b, oi.op ≠ .select cs b) (hsj : ∀ cs b, oj.op ≠ .select cs b) {K : Act → World → Prop} {a : Act} {w : World}
    (hy : YieldsD P ops F w0 oi v a) (h : wpOp P ops QF j K (a.put oi.dst v) w) :
    wpOp P ops QF j (fun a' w' => YieldsD P ops F w0 oi v a' ∧ K (a'.put oi.dst v) w') a w := by
  obtain ⟨h1, h2, h3⟩ := Oper.apart_spec hap
  have keep : ∀ (a : Act), YieldsD P ops F w0 oi v a → ∀ u, YieldsD P ops F w0 oi v (a.put oj.dst u) := fun a hy u =>
    hy.of_same (execOp_put oi hsi a oj.dst u h3) (wanted_put oi a oj.dst u h3)
  have keepD : ∀ d, YieldsD P ops F w0 oi v { a with defers := d :: a.defers } := fun d => hy.of_same rfl rfl
  unfold wpOp at *
  simp only [hj] at *
  rw [wanted_put oj a oi.dst v h1] at h
  split
  · rename_i hw
    simp only [hw, if_true] at h
    rcases h with h | ⟨_, hlets⟩
    case inr => exact (not_lets hlets).elim
    refine .inl ?_
    unfold Oper.wp at *
    rw [execOp_put oj hsj a oi.dst v h1] at h
    generalize (execOp a.eval oj).run P w = r at *
    cases r with
    | ok n w' =>
      cases n <;> simp only [Oper.upon] at h ⊢
      case value u => exact ⟨keep a hy u, by rw [← Act.put_comm a v u h2]; exact h⟩
      case skip => exact ⟨keep a hy _, by rw [← Act.put_comm a v undef h2]; exact h⟩
      case defer d =>
        refine ⟨keep _ (keepD d) _, ?_⟩
        rw [← Act.put_comm _ v undef h2, ← Act.put_defers]
        exact h
      case enter f args =>
        refine Calls.mono h fun e w'' he => ?_
        cases e with
        | returned u => exact ⟨keep a hy u, by rw [← Act.put_comm a v u h2]; exact he⟩
        | panicked c => exact he
        | outgrown => exact he
      case row row args => exact Rows.mono h fun u w'' he => ⟨keep a hy u, by rw [← Act.put_comm a v u h2]; exact he⟩
    | halt x w' =>
      cases x <;> simp only [Oper.upon] at h ⊢
      case panic u => exact h
  · rename_i hw
    simp only [hw] at h
    exact ⟨keep a hy _, by rw [← Act.put_comm a v undef h2]; exact h⟩

/-- whatever order is picked from here on, with new blocks between -/
def wpDr (P : Program) (md : Region.Mode) (ops : Array Oper) (F : Nat → Prop) (w0 : World) (K : Act → World → Prop) : Nat → Array Bool → Act → World → Prop
  | 0, listed, a, w => Region.ready md ops listed = [] ∧ ∀ w1, Rw w w1 → K a w1
  | f + 1, listed, a, w => (Region.ready md ops listed = [] → ∀ w1, Rw w w1 → K a w1) ∧
    ∀ i ∈ Region.ready md ops listed, ∀ w1, Rw w w1 → wpOp P ops QF i (fun a' w' => Keeps F w0 w' ∧ wpDr P md ops F w0 K f (listed.setIfInBounds i true) a' w') a w1
theorem wpDr_drift {K : Act → World → Prop} : ∀ (f : Nat) (listed : Array Bool) (a : Act) (w w1 : World), wpDr P md ops F w0 K f listed a w → Rw w w1 → wpDr P md ops F w0 K f listed a w1
  | 0, _, _, _, _, h, hw => ⟨h.1, fun w2 h2 => h.2 w2 (hw.trans h2)⟩
  | _ + 1, _, _, _, _, h, hw => ⟨fun e w2 h2 => h.1 e w2 (hw.trans h2), fun i hi w2 h2 => h.2 i hi w2 (hw.trans h2)⟩
theorem wpAny_of_dr {K : Act → World → Prop} {Q : Exit → Act → World → Prop} (hQ : ∀ a w, K a w → Q .normal a w) : ∀ (f : Nat) (listed : Array Bool) (a : Act) (w : World), wpDr P md ops F w0 K f listed a w → wpAny P md ops Q f listed a w
  | 0, _, _, _, h => ⟨h.1, hQ _ _ (h.2 _ (Rw.refl _))⟩
  | f + 1, _, _, _, h => ⟨fun e => hQ _ _ (h.1 e _ (Rw.refl _)), fun i hi => wpOp_weak (fun a' w' h' => wpAny_of_dr hQ f _ a' w' h'.2) (h.2 i hi _ (Rw.refl _))⟩
theorem wpDr_first {K : Act → World → Prop} {i : Nat} {oi : Oper} {v : Value} (hi : ops[i]? = some oi) (hsel : ∀ (j : Nat) (o : Oper) cs b, ops[j]? = some o → o.op ≠ .select cs b) :
    ∀ (f : Nat) (listed : Array Bool) (a : Act) (w : World),
      (∀ j oj, ops[j]? = some oj → j ≠ i → listed.getD j true = false → (∀ e ∈ oj.after, Region.binds md e = true → e.on ≠ i) → oi.apart ops oj = true) →
      i ∈ Region.ready md ops listed → YieldsD P ops F w0 oi v a → Keeps F w0 w → wpDr P md ops F w0 K f (listed.setIfInBounds i true) (a.put oi.dst v) w → wpDr P md ops F w0 K (f + 1) listed a w := by
  intro f
  induction f with
  | zero =>
    intro listed a w _ hr hy h0 H
    refine ⟨fun h => (by rw [h] at hr; cases hr), fun j hj w1 h1 => ?_⟩
    by_cases hji : j = i
    · subst hji; exact hy.wpOp hi (h0.rw h1) fun w' hw' => ⟨(h0.rw h1).rw hw', wpDr_drift 0 _ _ _ _ H (h1.trans hw')⟩
    · have := ready_mono hj hji
      rw [H.1] at this
      cases this
  | succ f ih =>
    intro listed a w hfree hr hy h0 H
    refine ⟨fun h => (by rw [h] at hr; cases hr), fun j hj w1 h1 => ?_⟩
    by_cases hji : j = i
    · subst hji; exact hy.wpOp hi (h0.rw h1) fun w' hw' => ⟨(h0.rw h1).rw hw', wpDr_drift (f + 1) _ _ _ _ H (h1.trans hw')⟩
    · have h2 := H.2 j (ready_mono hj hji) w1 h1
      obtain ⟨hjun, oj, hoj, hall⟩ := mem_ready.1 hj
      have hnot : ∀ e ∈ oj.after, Region.binds md e = true → e.on ≠ i := fun e he hb heq => by
        have h1 := hall e he hb
        have h0 := (mem_ready.1 hr).1
        rw [heq] at h1
        rcases Nat.lt_or_ge i listed.size with h' | h'
        · simp [h'] at h0 h1; rw [h0] at h1; cases h1
        · simp [Array.getElem?_eq_none h'] at h1
      have h3 := wpOp_putD hoj (hfree j oj hoj hji hjun hnot) (fun cs b => hsel i oi cs b hi) (fun cs b => hsel j oj cs b hoj) hy h2
      have hfree' : ∀ k ok, ops[k]? = some ok → k ≠ i → (listed.setIfInBounds j true).getD k true = false →
          (∀ e ∈ ok.after, Region.binds md e = true → e.on ≠ i) → oi.apart ops ok = true := fun k ok hk hki hun hno => by
        refine hfree k ok hk hki ?_ hno
        by_cases hjk : j = k
        · subst hjk; exact hjun
        · rw [getD_set_ne true hjk] at hun; exact hun
      refine wpOp_mono (fun a' w' h4 => ⟨h4.2.1, ih (listed.setIfInBounds j true) a' w' hfree' (ready_mono hr (Ne.symm hji)) h4.1 h4.2.1 ?_⟩) h3
      rw [Array.setIfInBounds_comm _ _ hji]
      exact h4.2.2


/-! ### the plan -/
def planB (md : Region.Mode) (ops : Array Oper) : List (Bool × Nat) → Array Bool → Bool
  | [], listed => (Region.ready md ops listed).isEmpty
  | (true, i) :: r, listed => decide (i ∈ Region.ready md ops listed) && Region.free md ops listed i && planB md ops r (listed.setIfInBounds i true)
  | (false, i) :: r, listed => decide (Region.ready md ops listed = [i]) && planB md ops r (listed.setIfInBounds i true)
def wpPlan (P : Program) (ops : Array Oper) (F : Nat → Prop) (w0 : World) (K : Act → World → Prop) : List (Bool × Nat) → Act → World → Prop
  | [], a, w => ∀ w1, Rw w w1 → K a w1
  | (true, i) :: r, a, w => ∃ o, ops[i]? = some o ∧ if Region.wanted o (yielded ops a.tmps) then ∃ v, (∀ w, Keeps F w0 w → o.quietAt P a (Rw w) w v) ∧ wpPlan P ops F w0 K r (a.put o.dst v) w else wpPlan P ops F w0 K r (a.put o.dst undef) w
  | (false, i) :: r, a, w => ∃ o, ops[i]? = some o ∧ ∀ w1, Rw w w1 → wpList P ops (fun e a' w' => e = .normal ∧ Keeps F w0 w' ∧ wpPlan P ops F w0 K r a' w') [o] a w1
theorem wpDr_plan {K : Act → World → Prop} (hsel : Region.noSelect ops = true) : ∀ (pl : List (Bool × Nat)) (listed : Array Bool) (a : Act) (w : World), planB md ops pl listed = true → Keeps F w0 w → wpPlan P ops F w0 K pl a w → wpDr P md ops F w0 K pl.length listed a w
  | [], listed, a, w, hB, _, h => ⟨by simpa [planB] using hB, h⟩
  | (true, i) :: r, listed, a, w, hB, hw, h => by
    simp only [planB, Bool.and_eq_true, decide_eq_true_eq] at hB
    obtain ⟨o, h0, h⟩ := h
    by_cases hwt : Region.wanted o (yielded ops a.tmps) = true
    · simp only [hwt, if_true] at h
      obtain ⟨v, hv, hK⟩ := h
      exact wpDr_first h0 (Region.noSelect_spec hsel) r.length listed a w (Region.free_spec h0 hB.1.2) hB.1.1 (.inl ⟨hwt, hv⟩) hw (wpDr_plan hsel r _ _ _ hB.2 hw hK)
    · simp only [hwt] at h
      exact wpDr_first h0 (Region.noSelect_spec hsel) r.length listed a w (Region.free_spec h0 hB.1.2) hB.1.1 (.inr ⟨by simpa using hwt, rfl⟩) hw (wpDr_plan hsel r _ _ _ hB.2 hw h)
  | (false, i) :: r, listed, a, w, hB, hw, h => by
    simp only [planB, Bool.and_eq_true, decide_eq_true_eq] at hB
    obtain ⟨o, h0, h⟩ := h
    refine ⟨fun h1 => (by rw [hB.1] at h1; cases h1), fun j hj w1 h1 => ?_⟩
    rw [hB.1] at hj
    have hik : j = i := by simpa using hj
    subst hik
    exact wpOp_mono (fun a' w' h' => ⟨h'.1, wpDr_plan hsel r _ a' w' hB.2 h'.1 h'.2⟩) (wpOp_of_one (K := fun a' w' => Keeps F w0 w' ∧ wpPlan P ops F w0 K r a' w') h0 (h w1 h1))
def regionB (ops : Array Oper) (pl : List (Bool × Nat)) : Bool := Region.noSelect ops && decide (pl.length = ops.size) && planB .any ops pl (Array.replicate ops.size false)
/-- the region -/
theorem wp_region_plan {id : Nat} {Q : Exit → Act → World → Prop} {a : Act} {w : World} {l : List Oper} (F : Nat → Prop) (pl : List (Bool × Nat)) (hm : P.follows .mixedOrders = true) (hB : regionB l.toArray pl = true)
    (h : wpPlan P l.toArray F w.drew (fun a' w' => Q .normal a' w') pl a w.drew) : (Code.region id l.toArray true).wp P Q a w := by
  simp only [regionB, Bool.and_eq_true, decide_eq_true_eq] at hB
  refine wp_region_any hm ?_
  have G := wpDr_plan hB.1.1 pl (Array.replicate l.toArray.size false) a w.drew hB.2 (Keeps.refl F w.drew) h
  rw [hB.1.2] at G
  exact wpAny_of_dr (fun _ _ h => h) _ _ _ _ G

/-! ### steps -/
theorem plan_nil {K : Act → World → Prop} {a : Act} {w : World} (h : ∀ w1, Rw w w1 → K a w1) : wpPlan P ops F w0 K [] a w := h
theorem plan_head {K' : Act → World → Prop} {i : Nat} {r : List (Bool × Nat)} {a : Act} {w : World} {o : Oper} (hi : ops[i]? = some o)
    (h : ∀ K : Act → Prop, (∀ a, wpPlan P ops F w0 K' r a w → K a) → if Region.wanted o (yielded ops a.tmps) then ∃ v, (∀ w, Keeps F w0 w → o.quietAt P a (Rw w) w v) ∧ K (a.put o.dst v) else K (a.put o.dst undef)) : wpPlan P ops F w0 K' ((true, i) :: r) a w :=
  ⟨o, hi, h _ (fun _ h => h)⟩
theorem plan_sole {K' : Act → World → Prop} {i : Nat} {r : List (Bool × Nat)} {a : Act} {w : World} {o : Oper} (hi : ops[i]? = some o)
    (h : ∀ w1, Rw w w1 → ∀ Q' : Exit → Act → World → Prop, (∀ a' w', Keeps F w0 w' → wpPlan P ops F w0 K' r a' w' → Q' .normal a' w') → wpList P ops Q' [o] a w1) : wpPlan P ops F w0 K' ((false, i) :: r) a w :=
  ⟨o, hi, fun w1 h1 => h w1 h1 _ fun _ _ h2 h3 => ⟨rfl, h2, h3⟩⟩
theorem plan_plain {a : Act} {o : Oper} {K : Act → Prop} (v : Value) (hg : Region.wanted o (yielded ops a.tmps) = true) (hv : ∀ w, Keeps F w0 w → (execOp a.eval o).run P w = .ok (.value v) w) (h : K (a.put o.dst v)) :
    if Region.wanted o (yielded ops a.tmps) then ∃ v, (∀ w, Keeps F w0 w → o.quietAt P a (Rw w) w v) ∧ K (a.put o.dst v) else K (a.put o.dst undef) := by
  rw [if_pos hg]
  exact ⟨v, fun w hw => by unfold Oper.quietAt; rw [hv w hw]; exact ⟨rfl, rfl⟩, h⟩
theorem plan_call {a : Act} {o : Oper} {K : Act → Prop} (v : Value) (f : FuncId) (args : Array Value) (hg : Region.wanted o (yielded ops a.tmps) = true) (hv : ∀ w, (execOp a.eval o).run P w = .ok (.enter f args) w)
    (hc : ∀ w, Keeps F w0 w → Calls P f args w fun e w' => e = .returned v ∧ Rw w w') (h : K (a.put o.dst v)) :
    if Region.wanted o (yielded ops a.tmps) then ∃ v, (∀ w, Keeps F w0 w → o.quietAt P a (Rw w) w v) ∧ K (a.put o.dst v) else K (a.put o.dst undef) := by
  rw [if_pos hg]
  exact ⟨v, fun w hw => by unfold Oper.quietAt; rw [hv w]; exact ⟨rfl, hc w hw⟩, h⟩
theorem plan_load {a : Act} {o : Oper} {K : Act → Prop} {b ty n : Nat} {d : TypeDesc} {x : Operand} {cs : List Value} {t : TypeId} (hb : ∀ w, Keeps F w0 w → Blk w b t cs)
    (hu : P.underlying ty = some d) (hd : wide d = true) (hi : (P.info? ty).map (·.size) = some n) (hn : cs.length = n) (hg : Region.wanted o (yielded ops a.tmps) = true) (ho : o.op = .load ty x) (hx : a.eval x = .pointer (some ⟨b, 0, none⟩))
    (h : K (a.put o.dst (.agg cs.toArray))) : if Region.wanted o (yielded ops a.tmps) then ∃ v, (∀ w, Keeps F w0 w → o.quietAt P a (Rw w) w v) ∧ K (a.put o.dst v) else K (a.put o.dst undef) :=
  plan_plain (.agg cs.toArray) hg (fun w hw => by
    unfold execOp
    simp only [ho, hx, Instr.loadAt, Instr.sureAddr, Sem.run_bind, Sem.run_pure, Result.andThen_ok, run_loadVar_row w b t ty cs.toArray (0, 0) d (hb w hw) hu (by cases d <;> first | rfl | cases hd) (by rw [hi]; simp [hn])]) h
theorem plan_skip {a : Act} {o : Oper} {K : Act → Prop} (hg : Region.wanted o (yielded ops a.tmps) = false) (h : K (a.put o.dst undef)) :
    if Region.wanted o (yielded ops a.tmps) then ∃ v, (∀ w, Keeps F w0 w → o.quietAt P a (Rw w) w v) ∧ K (a.put o.dst v) else K (a.put o.dst undef) := by
  rw [if_neg (by simp [hg])]; exact h
end Go.Proofs.YtcbkbjpdfanjpaaGreatDoor.Pl

namespace Go.Proofs.YtcbkbjpdfanjpaaGreatDoor.Pl
open Go.RowKit
variable {P : Program} {md : Region.Mode} {ops : Array Oper} {w0 : World} {F : Nat → Prop}

inductive Tree where
  | done
  | head (i : Nat) (t : Tree)
  | sole (i : Nat) (t : Tree)
  | fork (i : Nat) (t : Tree) (j : Nat) (u : Tree)
def treeB (md : Region.Mode) (ops : Array Oper) : Tree → Nat → Array Bool → Bool
  | .done, f, listed => decide (f = 0) && (Region.ready md ops listed).isEmpty
  | .head i t, f, listed => decide (0 < f) && decide (i ∈ Region.ready md ops listed) && Region.free md ops listed i && treeB md ops t (f - 1) (listed.setIfInBounds i true)
  | .sole i t, f, listed => decide (0 < f) && decide (Region.ready md ops listed = [i]) && treeB md ops t (f - 1) (listed.setIfInBounds i true)
  | .fork i t j u, f, listed => decide (0 < f) && decide (Region.ready md ops listed = [i, j]) && treeB md ops t (f - 1) (listed.setIfInBounds i true) && treeB md ops u (f - 1) (listed.setIfInBounds j true)
def wpTree (P : Program) (ops : Array Oper) (F : Nat → Prop) (w0 : World) (K : Act → World → Prop) : Tree → Act → World → Prop
  | .done, a, w => ∀ w1, Rw w w1 → K a w1
  | .head i t, a, w => ∃ o, ops[i]? = some o ∧ if Region.wanted o (yielded ops a.tmps) then ∃ v, (∀ w, Keeps F w0 w → o.quietAt P a (Rw w) w v) ∧ wpTree P ops F w0 K t (a.put o.dst v) w else wpTree P ops F w0 K t (a.put o.dst undef) w
  | .sole i t, a, w => ∃ o, ops[i]? = some o ∧ ∀ w1, Rw w w1 → wpList P ops (fun e a' w' => e = .normal ∧ Keeps F w0 w' ∧ wpTree P ops F w0 K t a' w') [o] a w1
  | .fork i t j u, a, w => (∃ o, ops[i]? = some o ∧ ∀ w1, Rw w w1 → wpList P ops (fun e a' w' => e = .normal ∧ Keeps F w0 w' ∧ wpTree P ops F w0 K t a' w') [o] a w1) ∧
      ∃ o, ops[j]? = some o ∧ ∀ w1, Rw w w1 → wpList P ops (fun e a' w' => e = .normal ∧ Keeps F w0 w' ∧ wpTree P ops F w0 K u a' w') [o] a w1
theorem wpDr_tree {K : Act → World → Prop} (hsel : Region.noSelect ops = true) : ∀ (t : Tree) (f : Nat) (listed : Array Bool) (a : Act) (w : World), treeB md ops t f listed = true → Keeps F w0 w → wpTree P ops F w0 K t a w → wpDr P md ops F w0 K f listed a w
  | .done, f, listed, a, w, hB, _, h => by
    simp only [treeB, Bool.and_eq_true, decide_eq_true_eq] at hB
    obtain ⟨rfl, hB⟩ := hB
    exact ⟨by simpa using hB, h⟩
  | .head i r, f, listed, a, w, hB, hw, h => by
    simp only [treeB, Bool.and_eq_true, decide_eq_true_eq] at hB
    obtain ⟨g, rfl⟩ : ∃ g, f = g + 1 := ⟨f - 1, by omega⟩
    obtain ⟨o, h0, h⟩ := h
    by_cases hwt : Region.wanted o (yielded ops a.tmps) = true
    · simp only [hwt, if_true] at h
      obtain ⟨v, hv, hK⟩ := h
      exact wpDr_first h0 (Region.noSelect_spec hsel) g listed a w (Region.free_spec h0 hB.1.2) hB.1.1.2 (.inl ⟨hwt, hv⟩) hw (wpDr_tree hsel r _ _ _ _ hB.2 hw hK)
    · simp only [hwt] at h
      exact wpDr_first h0 (Region.noSelect_spec hsel) g listed a w (Region.free_spec h0 hB.1.2) hB.1.1.2 (.inr ⟨by simpa using hwt, rfl⟩) hw (wpDr_tree hsel r _ _ _ _ hB.2 hw h)
  | .sole i r, f, listed, a, w, hB, hw, h => by
    simp only [treeB, Bool.and_eq_true, decide_eq_true_eq] at hB
    obtain ⟨g, rfl⟩ : ∃ g, f = g + 1 := ⟨f - 1, by omega⟩
    obtain ⟨o, h0, h⟩ := h
    refine ⟨fun h1 => (by rw [hB.1.2] at h1; cases h1), fun j hj w1 h1 => ?_⟩
    rw [hB.1.2] at hj
    have hik : j = i := by simpa using hj
    subst hik
    exact wpOp_mono (fun a' w' h' => ⟨h'.1, wpDr_tree hsel r _ _ a' w' hB.2 h'.1 h'.2⟩) (wpOp_of_one (K := fun a' w' => Keeps F w0 w' ∧ wpTree P ops F w0 K r a' w') h0 (h w1 h1))
  | .fork i r j u, f, listed, a, w, hB, hw, h => by
    simp only [treeB, Bool.and_eq_true, decide_eq_true_eq] at hB
    obtain ⟨g, rfl⟩ : ∃ g, f = g + 1 := ⟨f - 1, by omega⟩
    obtain ⟨⟨o, h0, h⟩, ⟨p, k0, k⟩⟩ := h
    refine ⟨fun h1 => (by rw [hB.1.1.2] at h1; cases h1), fun m hm w1 h1 => ?_⟩
    rw [hB.1.1.2] at hm
    have hmm : m = i ∨ m = j := by simpa using hm
    rcases hmm with rfl | rfl
    · exact wpOp_mono (fun a' w' h' => ⟨h'.1, wpDr_tree hsel r _ _ a' w' hB.1.2 h'.1 h'.2⟩) (wpOp_of_one (K := fun a' w' => Keeps F w0 w' ∧ wpTree P ops F w0 K r a' w') h0 (h w1 h1))
    · exact wpOp_mono (fun a' w' h' => ⟨h'.1, wpDr_tree hsel u _ _ a' w' hB.2 h'.1 h'.2⟩) (wpOp_of_one (K := fun a' w' => Keeps F w0 w' ∧ wpTree P ops F w0 K u a' w') k0 (k w1 h1))
def regionT (ops : Array Oper) (t : Tree) : Bool := Region.noSelect ops && treeB .any ops t ops.size (Array.replicate ops.size false)
theorem wp_region_tree {id : Nat} {Q : Exit → Act → World → Prop} {a : Act} {w : World} {l : List Oper} (F : Nat → Prop) (t : Tree) (hm : P.follows .mixedOrders = true) (hB : regionT l.toArray t = true)
    (h : wpTree P l.toArray F w.drew (fun a' w' => Q .normal a' w') t a w.drew) : (Code.region id l.toArray true).wp P Q a w := by
  simp only [regionT, Bool.and_eq_true] at hB
  refine wp_region_any hm ?_
  have G := wpDr_tree hB.1 t l.toArray.size (Array.replicate l.toArray.size false) a w.drew hB.2 (Keeps.refl F w.drew) h
  exact wpAny_of_dr (fun _ _ h => h) _ _ _ _ G
theorem tree_done {K : Act → World → Prop} {a : Act} {w : World} (h : ∀ w1, Rw w w1 → K a w1) : wpTree P ops F w0 K .done a w := h
theorem tree_head {K' : Act → World → Prop} {i : Nat} {r : Tree} {a : Act} {w : World} {o : Oper} (hi : ops[i]? = some o)
    (h : ∀ K : Act → Prop, (∀ a, wpTree P ops F w0 K' r a w → K a) → if Region.wanted o (yielded ops a.tmps) then ∃ v, (∀ w, Keeps F w0 w → o.quietAt P a (Rw w) w v) ∧ K (a.put o.dst v) else K (a.put o.dst undef)) : wpTree P ops F w0 K' (.head i r) a w :=
  ⟨o, hi, h _ (fun _ h => h)⟩
theorem tree_sole {K' : Act → World → Prop} {i : Nat} {r : Tree} {a : Act} {w : World} {o : Oper} (hi : ops[i]? = some o)
    (h : ∀ w1, Rw w w1 → ∀ Q' : Exit → Act → World → Prop, (∀ a' w', Keeps F w0 w' → wpTree P ops F w0 K' r a' w' → Q' .normal a' w') → wpList P ops Q' [o] a w1) : wpTree P ops F w0 K' (.sole i r) a w :=
  ⟨o, hi, fun w1 h1 => h w1 h1 _ fun _ _ h2 h3 => ⟨rfl, h2, h3⟩⟩
theorem tree_fork {K' : Act → World → Prop} {i j : Nat} {r u : Tree} {a : Act} {w : World} {o p : Oper} (hi : ops[i]? = some o) (hj : ops[j]? = some p)
    (h : ∀ w1, Rw w w1 → ∀ Q' : Exit → Act → World → Prop, (∀ a' w', Keeps F w0 w' → wpTree P ops F w0 K' r a' w' → Q' .normal a' w') → wpList P ops Q' [o] a w1)
    (k : ∀ w1, Rw w w1 → ∀ Q' : Exit → Act → World → Prop, (∀ a' w', Keeps F w0 w' → wpTree P ops F w0 K' u a' w' → Q' .normal a' w') → wpList P ops Q' [p] a w1) : wpTree P ops F w0 K' (.fork i r j u) a w :=
  ⟨⟨o, hi, fun w1 h1 => h w1 h1 _ fun _ _ h2 h3 => ⟨rfl, h2, h3⟩⟩, ⟨p, hj, fun w1 h1 => k w1 h1 _ fun _ _ h2 h3 => ⟨rfl, h2, h3⟩⟩⟩
end Go.Proofs.YtcbkbjpdfanjpaaGreatDoor.Pl
