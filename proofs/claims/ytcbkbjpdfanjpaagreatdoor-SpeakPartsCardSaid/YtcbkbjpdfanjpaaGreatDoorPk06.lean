/-
As Plan, but the last operation (L), for which all others that float must wait, may write any block.
A region that draws its order, walked by a plan: a list of its operations, each of which either floats (it reads, or makes memory of its own, and nothing that is left touches it) or is the only one that may come. One walk of the plan serves every order. The sole ones may write blocks of F, which no floating one reads.
Integers in blocks; quiet walks whose values the walk itself finds.
-/
import Derived.Test.YtcbkbjpdfanjpaaGreatDoorRows
import Derived.LoopTactic
import Derived.Deep.DeepCutAuto
import Derived.BigRegion
import Derived.Outline
import Derived.Deep.MidRow
import Derived.ChangeKeysEq
import Derived.Test.YtcbkbjpdfanjpaaGreatDoorPk05
import Derived.Test.YtcbkbjpdfanjpaaGreatDoorPk03
namespace Go.Proofs.YtcbkbjpdfanjpaaGreatDoor.Pq
open Go.RowKit
variable {P : Program} {md : Region.Mode} {ops : Array Oper} {w0 : World} {F : Nat → Prop} {L : Nat}

/-- in every world behind w0 operation o leaves v, and nothing but new blocks -/
def YieldsD (P : Program) (ops : Array Oper) (F : Nat → Prop) (w0 : World) (o : Oper) (v : Value) (a : Act) : Prop :=
  (Region.wanted o (yielded ops a.tmps) = true ∧ ∀ w, Keeps F w0 w → o.quietAt P a (Rw w) w v) ∨ (Region.wanted o (yielded ops a.tmps) = false ∧ v = undef)
theorem YieldsD.of_same {o : Oper} {v : Value} {a a' : Act} (hy : YieldsD P ops F w0 o v a) (he : execOp a'.eval o = execOp a.eval o)
    (hw : Region.wanted o (yielded ops a'.tmps) = Region.wanted o (yielded ops a.tmps)) : YieldsD P ops F w0 o v a' := by
  unfold YieldsD Oper.quietAt at *
  rw [he, hw]
  exact hy
theorem YieldsD.wpOp {i : Nat} {o : Oper} {v : Value} {a : Act} {w : World} (hi : ops[i]? = some o) (hy : YieldsD P ops F w0 o v a) (hw0 : Keeps F w0 w) {K : Act → World → Prop} {Q : Exit → Act → World → Prop}
    (h : ∀ w', Rw w w' → K (a.put o.dst v) w') : wpOp P ops Q i K a w := by
  unfold Go.wpOp
  simp only [hi]
  rcases hy with ⟨hw, hv⟩ | ⟨hw, rfl⟩
  · simp only [hw, if_true]
    refine .inl (Oper.wp_of_quiet (C := Rw w) (K := fun a' => a' = a.put o.dst v) (Rw.refl w) (fun a' w' hw' e => by subst e; exact h w' hw') ⟨v, fun w2 h2 => ?_, rfl⟩)
    exact quietUpon_mono (fun w' h' => h2.trans h') (hv w2 (hw0.rw h2))
  · simp only [hw, Bool.false_eq_true, if_false]; exact h w (Rw.refl w)
theorem wpOp_putD {j : Nat} {oi oj : Oper} {v : Value} (hj : ops[j]? = some oj) (hap : oi.apart ops oj = true)
    (hsi : ∀ cs b, oi.op ≠ .select cs b) (hsj : ∀ cs b, oj.op ≠ .select cs b) {K : Act → World → Prop} {a : Act} {w : World}
    (hy : YieldsD P ops F w0 oi v a) (h : wpOp P ops QF j K (a.put oi.dst v) w) :
    wpOp P ops QF j (fun a' w' => YieldsD P ops F w0 oi v a' ∧ K (a'.put oi.dst v) w') a w := by
  obtain ⟨h1, h2, h3⟩ := Oper.apart_spec hap
  have keep : ∀ (a : Act), YieldsD P ops F w0 oi v a → ∀ u, YieldsD P ops F w0 oi v (a.put oj.dst u) := fun a hy u =>
    hy.of_same (execOp_put oi hsi a oj.dst u h3) (wanted_put oi a oj.dst u h3)
  have keepD : ∀ d, YieldsD P ops F w0 oi v { a with defers := d :: a.defers } := fun d => hy.of_same rfl rfl
  unfold wpOp at *
  simp only [hj] at *
  rw [wanted_put oj a oi.dst v h1] at h
  split
  · rename_i hw
    simp only [hw, if_true] at h
    rcases h with h | ⟨_, hlets⟩
    case inr => exact (not_lets hlets).elim
    refine .inl ?_
    unfold Oper.wp at *
    rw [execOp_put oj hsj a oi.dst v h1] at h
    generalize (execOp a.eval oj).run P w = r at *
    cases r with
    | ok n w' =>
      cases n <;> simp only [Oper.upon] at h ⊢
      case value u => exact ⟨keep a hy u, by rw [← Act.put_comm a v u h2]; exact h⟩
      case skip => exact ⟨keep a hy _, by rw [← Act.put_comm a v undef h2]; exact h⟩
      case defer d =>
        refine ⟨keep _ (keepD d) _, ?_⟩
        rw [← Act.put_comm _ v undef h2, ← Act.put_defers]
        exact h
      case enter f args =>
        refine Calls.mono h fun e w'' he => ?_
        cases e with
        | returned u => exact ⟨keep a hy u, by rw [← Act.put_comm a v u h2]; exact he⟩
        | panicked c => exact he
        | outgrown => exact he
      case row row args => exact Rows.mono h fun u w'' he => ⟨keep a hy u, by rw [← Act.put_comm a v u h2]; exact he⟩
    | halt x w' =>
      cases x <;> simp only [Oper.upon] at h ⊢
      case panic u => exact h
  · rename_i hw
    simp only [hw] at h
    exact ⟨keep a hy _, by rw [← Act.put_comm a v undef h2]; exact h⟩

/-- whatever order is picked from here on, with new blocks between -/
def wpDr (P : Program) (md : Region.Mode) (ops : Array Oper) (F : Nat → Prop) (L : Nat) (w0 : World) (K : Act → World → Prop) : Nat → Array Bool → Act → World → Prop
  | 0, listed, a, w => Region.ready md ops listed = [] ∧ ∀ w1, Rw w w1 → K a w1
  | f + 1, listed, a, w => (Region.ready md ops listed = [] → ∀ w1, Rw w w1 → K a w1) ∧
    ∀ i ∈ Region.ready md ops listed, ∀ w1, Rw w w1 → wpOp P ops QF i (fun a' w' => (i ≠ L → Keeps F w0 w') ∧ wpDr P md ops F L w0 K f (listed.setIfInBounds i true) a' w') a w1
theorem wpDr_drift {K : Act → World → Prop} : ∀ (f : Nat) (listed : Array Bool) (a : Act) (w w1 : World), wpDr P md ops F L w0 K f listed a w → Rw w w1 → wpDr P md ops F L w0 K f listed a w1
  | 0, _, _, _, _, h, hw => ⟨h.1, fun w2 h2 => h.2 w2 (hw.trans h2)⟩
  | _ + 1, _, _, _, _, h, hw => ⟨fun e w2 h2 => h.1 e w2 (hw.trans h2), fun i hi w2 h2 => h.2 i hi w2 (hw.trans h2)⟩
theorem wpAny_of_dr {K : Act → World → Prop} {Q : Exit → Act → World → Prop} (hQ : ∀ a w, K a w → Q .normal a w) : ∀ (f : Nat) (listed : Array Bool) (a : Act) (w : World), wpDr P md ops F L w0 K f listed a w → wpAny P md ops Q f listed a w
  | 0, _, _, _, h => ⟨h.1, hQ _ _ (h.2 _ (Rw.refl _))⟩
  | f + 1, _, _, _, h => ⟨fun e => hQ _ _ (h.1 e _ (Rw.refl _)), fun i hi => wpOp_weak (fun a' w' h' => wpAny_of_dr hQ f _ a' w' h'.2) (h.2 i hi _ (Rw.refl _))⟩
theorem wpDr_first {K : Act → World → Prop} {i : Nat} {oi : Oper} {v : Value} (hi : ops[i]? = some oi) (hsel : ∀ (j : Nat) (o : Oper) cs b, ops[j]? = some o → o.op ≠ .select cs b) :
    ∀ (f : Nat) (listed : Array Bool) (a : Act) (w : World),
      (∀ j oj, ops[j]? = some oj → j ≠ i → listed.getD j true = false → (∀ e ∈ oj.after, Region.binds md e = true → e.on ≠ i) → oi.apart ops oj = true) →
      i ∈ Region.ready md ops listed → (∃ oL, ops[L]? = some oL ∧ ∃ e ∈ oL.after, Region.binds md e = true ∧ e.on = i) → YieldsD P ops F w0 oi v a → Keeps F w0 w → wpDr P md ops F L w0 K f (listed.setIfInBounds i true) (a.put oi.dst v) w → wpDr P md ops F L w0 K (f + 1) listed a w := by
  intro f
  induction f with
  | zero =>
    intro listed a w _ hr hL hy h0 H
    refine ⟨fun h => (by rw [h] at hr; cases hr), fun j hj w1 h1 => ?_⟩
    by_cases hji : j = i
    · subst hji; exact hy.wpOp hi (h0.rw h1) fun w' hw' => ⟨fun _ => (h0.rw h1).rw hw', wpDr_drift 0 _ _ _ _ H (h1.trans hw')⟩
    · have := ready_mono hj hji
      rw [H.1] at this
      cases this
  | succ f ih =>
    intro listed a w hfree hr hL hy h0 H
    refine ⟨fun h => (by rw [h] at hr; cases hr), fun j hj w1 h1 => ?_⟩
    by_cases hji : j = i
    · subst hji; exact hy.wpOp hi (h0.rw h1) fun w' hw' => ⟨fun _ => (h0.rw h1).rw hw', wpDr_drift (f + 1) _ _ _ _ H (h1.trans hw')⟩
    · have h2 := H.2 j (ready_mono hj hji) w1 h1
      obtain ⟨hjun, oj, hoj, hall⟩ := mem_ready.1 hj
      have hnot : ∀ e ∈ oj.after, Region.binds md e = true → e.on ≠ i := fun e he hb heq => by
        have h1 := hall e he hb
        have h0 := (mem_ready.1 hr).1
        rw [heq] at h1
        rcases Nat.lt_or_ge i listed.size with h' | h'
        · simp [h'] at h0 h1; rw [h0] at h1; cases h1
        · simp [Array.getElem?_eq_none h'] at h1
      have hjL : j ≠ L := by
        rintro rfl
        obtain ⟨oL, hoL, e, he, hb, heq⟩ := hL
        rw [hoj] at hoL
        obtain rfl := Option.some.inj hoL
        exact hnot e he hb heq
      have h3 := wpOp_putD hoj (hfree j oj hoj hji hjun hnot) (fun cs b => hsel i oi cs b hi) (fun cs b => hsel j oj cs b hoj) hy h2
      have hfree' : ∀ k ok, ops[k]? = some ok → k ≠ i → (listed.setIfInBounds j true).getD k true = false →
          (∀ e ∈ ok.after, Region.binds md e = true → e.on ≠ i) → oi.apart ops ok = true := fun k ok hk hki hun hno => by
        refine hfree k ok hk hki ?_ hno
        by_cases hjk : j = k
        · subst hjk; exact hjun
        · rw [getD_set_ne true hjk] at hun; exact hun
      refine wpOp_mono (fun a' w' h4 => ⟨h4.2.1, ih (listed.setIfInBounds j true) a' w' hfree' (ready_mono hr (Ne.symm hji)) hL h4.1 (h4.2.1 hjL) ?_⟩) h3
      rw [Array.setIfInBounds_comm _ _ hji]
      exact h4.2.2


/-! ### the plan -/
def waitsB (md : Region.Mode) (ops : Array Oper) (L i : Nat) : Bool :=
  match ops[L]? with
  | some o => o.after.any fun e => Region.binds md e && decide (e.on = i)
  | none => false
theorem waitsB_spec {i : Nat} (h : waitsB md ops L i = true) : ∃ oL, ops[L]? = some oL ∧ ∃ e ∈ oL.after, Region.binds md e = true ∧ e.on = i := by
  unfold waitsB at h
  cases ho : ops[L]? with
  | none => rw [ho] at h; cases h
  | some o =>
    rw [ho] at h
    simp only [Array.any_eq_true', Bool.and_eq_true, decide_eq_true_eq] at h
    obtain ⟨e, he, h1, h2⟩ := h
    exact ⟨o, rfl, e, he, h1, h2⟩
def planB (md : Region.Mode) (ops : Array Oper) (L : Nat) : List (Bool × Nat) → Array Bool → Bool
  | [], listed => (Region.ready md ops listed).isEmpty
  | (true, i) :: r, listed => decide (i ∈ Region.ready md ops listed) && Region.free md ops listed i && waitsB md ops L i && planB md ops L r (listed.setIfInBounds i true)
  | (false, i) :: r, listed => decide (Region.ready md ops listed = [i]) && (decide (i ≠ L) || r.isEmpty) && planB md ops L r (listed.setIfInBounds i true)
def wpPlan (P : Program) (ops : Array Oper) (F : Nat → Prop) (L : Nat) (w0 : World) (K : Act → World → Prop) : List (Bool × Nat) → Act → World → Prop
  | [], a, w => ∀ w1, Rw w w1 → K a w1
  | (true, i) :: r, a, w => ∃ o, ops[i]? = some o ∧ if Region.wanted o (yielded ops a.tmps) then ∃ v, (∀ w, Keeps F w0 w → o.quietAt P a (Rw w) w v) ∧ wpPlan P ops F L w0 K r (a.put o.dst v) w else wpPlan P ops F L w0 K r (a.put o.dst undef) w
  | (false, i) :: r, a, w => ∃ o, ops[i]? = some o ∧ ∀ w1, Rw w w1 → wpList P ops (fun e a' w' => e = .normal ∧ (i ≠ L → Keeps F w0 w') ∧ wpPlan P ops F L w0 K r a' w') [o] a w1
theorem wpDr_plan {K : Act → World → Prop} (hsel : Region.noSelect ops = true) : ∀ (pl : List (Bool × Nat)) (listed : Array Bool) (a : Act) (w : World), planB md ops L pl listed = true → (pl ≠ [] → Keeps F w0 w) → wpPlan P ops F L w0 K pl a w → wpDr P md ops F L w0 K pl.length listed a w
  | [], listed, a, w, hB, _, h => ⟨by simpa [planB] using hB, h⟩
  | (true, i) :: r, listed, a, w, hB, hw, h => by
    simp only [planB, Bool.and_eq_true, decide_eq_true_eq] at hB
    obtain ⟨o, h0, h⟩ := h
    by_cases hwt : Region.wanted o (yielded ops a.tmps) = true
    · simp only [hwt, if_true] at h
      obtain ⟨v, hv, hK⟩ := h
      exact wpDr_first h0 (Region.noSelect_spec hsel) r.length listed a w (Region.free_spec h0 hB.1.1.2) hB.1.1.1 (waitsB_spec hB.1.2) (.inl ⟨hwt, hv⟩) (hw (List.cons_ne_nil _ _)) (wpDr_plan hsel r _ _ _ hB.2 (fun _ => hw (List.cons_ne_nil _ _)) hK)
    · simp only [hwt] at h
      exact wpDr_first h0 (Region.noSelect_spec hsel) r.length listed a w (Region.free_spec h0 hB.1.1.2) hB.1.1.1 (waitsB_spec hB.1.2) (.inr ⟨by simpa using hwt, rfl⟩) (hw (List.cons_ne_nil _ _)) (wpDr_plan hsel r _ _ _ hB.2 (fun _ => hw (List.cons_ne_nil _ _)) h)
  | (false, i) :: r, listed, a, w, hB, hw, h => by
    simp only [planB, Bool.and_eq_true, decide_eq_true_eq (p := Region.ready md ops listed = [i])] at hB
    obtain ⟨o, h0, h⟩ := h
    refine ⟨fun h1 => (by rw [hB.1.1] at h1; cases h1), fun j hj w1 h1 => ?_⟩
    rw [hB.1.1] at hj
    have hik : j = i := by simpa using hj
    subst hik
    have hlast : r ≠ [] → j ≠ L := fun hr e => by
      have := hB.1.2
      simp only [Bool.or_eq_true, decide_eq_true_eq, List.isEmpty_iff] at this
      exact this.elim (fun h => h e) (fun h => hr h)
    exact wpOp_mono (fun a' w' h' => ⟨h'.1, wpDr_plan hsel r _ a' w' hB.2 (fun hr => h'.1 (hlast hr)) h'.2⟩) (wpOp_of_one (K := fun a' w' => (j ≠ L → Keeps F w0 w') ∧ wpPlan P ops F L w0 K r a' w') h0 (h w1 h1))
def regionB (ops : Array Oper) (L : Nat) (pl : List (Bool × Nat)) : Bool := Region.noSelect ops && decide (pl.length = ops.size) && planB .any ops L pl (Array.replicate ops.size false)
/-- the region -/
theorem wp_region_plan {id : Nat} {Q : Exit → Act → World → Prop} {a : Act} {w : World} {l : List Oper} (F : Nat → Prop) (L : Nat) (pl : List (Bool × Nat)) (hm : P.follows .mixedOrders = true) (hB : regionB l.toArray L pl = true)
    (h : wpPlan P l.toArray F L w.drew (fun a' w' => Q .normal a' w') pl a w.drew) : (Code.region id l.toArray true).wp P Q a w := by
  simp only [regionB, Bool.and_eq_true, decide_eq_true_eq] at hB
  refine wp_region_any hm ?_
  have G := wpDr_plan hB.1.1 pl (Array.replicate l.toArray.size false) a w.drew hB.2 (fun _ => Keeps.refl F w.drew) h
  rw [hB.1.2] at G
  exact wpAny_of_dr (fun _ _ h => h) _ _ _ _ G

/-! ### steps -/
theorem plan_nil {K : Act → World → Prop} {a : Act} {w : World} (h : ∀ w1, Rw w w1 → K a w1) : wpPlan P ops F L w0 K [] a w := h
theorem plan_head {K' : Act → World → Prop} {i : Nat} {r : List (Bool × Nat)} {a : Act} {w : World} {o : Oper} (hi : ops[i]? = some o)
    (h : ∀ K : Act → Prop, (∀ a, wpPlan P ops F L w0 K' r a w → K a) → if Region.wanted o (yielded ops a.tmps) then ∃ v, (∀ w, Keeps F w0 w → o.quietAt P a (Rw w) w v) ∧ K (a.put o.dst v) else K (a.put o.dst undef)) : wpPlan P ops F L w0 K' ((true, i) :: r) a w :=
  ⟨o, hi, h _ (fun _ h => h)⟩
theorem plan_sole {K' : Act → World → Prop} {i : Nat} {r : List (Bool × Nat)} {a : Act} {w : World} {o : Oper} (hi : ops[i]? = some o)
    (h : ∀ w1, Rw w w1 → ∀ Q' : Exit → Act → World → Prop, (∀ a' w', Keeps F w0 w' → wpPlan P ops F L w0 K' r a' w' → Q' .normal a' w') → wpList P ops Q' [o] a w1) : wpPlan P ops F L w0 K' ((false, i) :: r) a w :=
  ⟨o, hi, fun w1 h1 => h w1 h1 _ fun _ _ h2 h3 => ⟨rfl, fun _ => h2, h3⟩⟩
theorem plan_last {K' : Act → World → Prop} {a : Act} {w : World} {o : Oper} (hi : ops[L]? = some o)
    (h : ∀ w1, Rw w w1 → ∀ Q' : Exit → Act → World → Prop, (∀ a' w', (∀ w2, Rw w' w2 → K' a' w2) → Q' .normal a' w') → wpList P ops Q' [o] a w1) : wpPlan P ops F L w0 K' [(false, L)] a w :=
  ⟨o, hi, fun w1 h1 => h w1 h1 _ fun _ _ h3 => ⟨rfl, fun e => absurd rfl e, h3⟩⟩
theorem plan_plain {a : Act} {o : Oper} {K : Act → Prop} (v : Value) (hg : Region.wanted o (yielded ops a.tmps) = true) (hv : ∀ w, Keeps F w0 w → (execOp a.eval o).run P w = .ok (.value v) w) (h : K (a.put o.dst v)) :
    if Region.wanted o (yielded ops a.tmps) then ∃ v, (∀ w, Keeps F w0 w → o.quietAt P a (Rw w) w v) ∧ K (a.put o.dst v) else K (a.put o.dst undef) := by
  rw [if_pos hg]
  exact ⟨v, fun w hw => by unfold Oper.quietAt; rw [hv w hw]; exact ⟨rfl, rfl⟩, h⟩
theorem plan_call {a : Act} {o : Oper} {K : Act → Prop} (v : Value) (f : FuncId) (args : Array Value) (hg : Region.wanted o (yielded ops a.tmps) = true) (hv : ∀ w, (execOp a.eval o).run P w = .ok (.enter f args) w)
    (hc : ∀ w, Keeps F w0 w → Calls P f args w fun e w' => e = .returned v ∧ Rw w w') (h : K (a.put o.dst v)) :
    if Region.wanted o (yielded ops a.tmps) then ∃ v, (∀ w, Keeps F w0 w → o.quietAt P a (Rw w) w v) ∧ K (a.put o.dst v) else K (a.put o.dst undef) := by
  rw [if_pos hg]
  exact ⟨v, fun w hw => by unfold Oper.quietAt; rw [hv w]; exact ⟨rfl, hc w hw⟩, h⟩
theorem plan_load {a : Act} {o : Oper} {K : Act → Prop} {b ty n : Nat} {d : TypeDesc} {x : Operand} {cs : List Value} {t : TypeId} (hb : ∀ w, Keeps F w0 w → Blk w b t cs)
    (hu : P.underlying ty = some d) (hd : wide d = true) (hi : (P.info? ty).map (·.size) = some n) (hn : cs.length = n) (hg : Region.wanted o (yielded ops a.tmps) = true) (ho : o.op = .load ty x) (hx : a.eval x = .pointer (some ⟨b, 0, none⟩))
    (h : K (a.put o.dst (.agg cs.toArray))) : if Region.wanted o (yielded ops a.tmps) then ∃ v, (∀ w, Keeps F w0 w → o.quietAt P a (Rw w) w v) ∧ K (a.put o.dst v) else K (a.put o.dst undef) :=
  plan_plain (.agg cs.toArray) hg (fun w hw => by
    unfold execOp
    simp only [ho, hx, Instr.loadAt, Instr.sureAddr, Sem.run_bind, Sem.run_pure, Result.andThen_ok, run_loadVar_row w b t ty cs.toArray (0, 0) d (hb w hw) hu (by cases d <;> first | rfl | cases hd) (by rw [hi]; simp [hn])]) h
theorem plan_skip {a : Act} {o : Oper} {K : Act → Prop} (hg : Region.wanted o (yielded ops a.tmps) = false) (h : K (a.put o.dst undef)) :
    if Region.wanted o (yielded ops a.tmps) then ∃ v, (∀ w, Keeps F w0 w → o.quietAt P a (Rw w) w v) ∧ K (a.put o.dst v) else K (a.put o.dst undef) := by
  rw [if_neg (by simp [hg])]; exact h
end Go.Proofs.YtcbkbjpdfanjpaaGreatDoor.Pq

namespace Go.Proofs.YtcbkbjpdfanjpaaGreatDoor
open Go.RowKit
set_option maxRecDepth 100000

theorem list_gen {P : Program} {ops : Array Oper} {l : List Oper} {Q : Exit → Act → World → Prop} {a : Act} {W : World} (R : World → Prop) (h : R W) (k : ∀ w1, R w1 → wpList P ops Q l a w1) : wpList P ops Q l a W := k W h
/-- integers of one kind as values -/
def iv (k : IntKind) (l : List Int) : List Value := l.map (Value.int k)
theorem iv_len (k : IntKind) (l : List Int) : (iv k l).length = l.length := by simp [iv]
theorem iv_get (k : IntKind) (l : List Int) (i : Nat) (h : i < l.length) : (iv k l)[i]? = some (.int k (l.getD i 0)) := by simp [iv, h]
theorem iv_one (k : IntKind) (l : List Int) : ∀ v ∈ iv k l, v.oneCell' = true := by intro y hy; obtain ⟨d, _, rfl⟩ := List.mem_map.1 hy; rfl
theorem iv_set (k : IntKind) (l : List Int) (i : Nat) (d : Int) : (iv k l).set i (.int k d) = iv k (l.set i d) := by simp [iv, List.map_set]
theorem Blk.iset {k : IntKind} {w : World} {b : Nat} {t : TypeId} {l : List Int} (h : Blk w b t (iv k l)) (i : Nat) (d : Int) : Blk (w.setCell ⟨b, i, none⟩ (.int k d)) b t (iv k (l.set i d)) := by rw [← iv_set]; exact h.set i _
theorem Blk.icell {k : IntKind} {w : World} {b : Nat} {t : TypeId} {l : List Int} (h : Blk w b t (iv k l)) (i : Nat) (hi : i < l.length) : w.cell? ⟨b, i, none⟩ = some (.int k (l.getD i 0)) := h.cell i _ (iv_get k l i hi)
theorem list8 (l : List Int) (h : l.length = 8) : ∃ a b c d e f g k, l = [a, b, c, d, e, f, g, k] := by
  match l, h with
  | [a, b, c, d, e, f, g, k], _ => exact ⟨a, b, c, d, e, f, g, k, rfl⟩
theorem set_len (l : List Int) (i : Nat) (d : Int) : (l.set i d).length = l.length := List.length_set ..

section
variable {P : Program} {ops : Array Oper} {C : World → Prop} {a : Act} {o : Oper} {K : Act → Prop}
theorem quiet_autoE (hg : Region.wanted o (yielded ops a.tmps) = true) (h : ∃ v, (∀ w, C w → (execOp a.eval o).run P w = .ok (.value v) w) ∧ K (a.put o.dst v)) :
    if Region.wanted o (yielded ops a.tmps) then o.quiet P a C K else K (a.put o.dst undef) := by
  obtain ⟨v, hv, hk⟩ := h
  exact quiet_plainG v hg hv hk
theorem quiet_callE (hg : Region.wanted o (yielded ops a.tmps) = true) (h : ∃ f args, (∀ w, (execOp a.eval o).run P w = .ok (.enter f args) w) ∧ ∃ v, (∀ w, C w → Calls P f args w fun e w' => e = .returned v ∧ C w') ∧ K (a.put o.dst v)) :
    if Region.wanted o (yielded ops a.tmps) then o.quiet P a C K else K (a.put o.dst undef) := by
  obtain ⟨f, args, hv, v, hc, hk⟩ := h
  exact quiet_callG v f args hg hv hc hk
theorem quiet_skipE (hg : Region.wanted o (yielded ops a.tmps) = false) (h : K (a.put o.dst undef)) :
    if Region.wanted o (yielded ops a.tmps) then o.quiet P a C K else K (a.put o.dst undef) := by
  rw [if_neg (by rw [hg]; decide)]
  exact h
theorem quiet_loadN {b off ty : Nat} {d : TypeDesc} {x : Operand} {cs : List Value} (hb : ∀ w, C w → w.rangeAt b off cs)
    (hu : P.underlying ty = some d) (hd : d.isRow = true) (hi : (P.info? ty).map (·.size) = some cs.length) (hg : Region.wanted o (yielded ops a.tmps) = true) (ho : o.op = .load ty x) (hx : a.eval x = .pointer (some ⟨b, off, none⟩)) (h : K (a.put o.dst (.agg cs.toArray))) :
    if Region.wanted o (yielded ops a.tmps) then o.quiet P a C K else K (a.put o.dst undef) :=
  quiet_plainG (.agg cs.toArray) hg (fun w hw => by
    unfold execOp
    simp only [ho, hx, run_loadAt_mid w b off ty cs _ (hb w hw) hu hd hi, Sem.run_bind, Sem.run_pure, Result.andThen_ok]) h
end
theorem Blk.range {w : World} {b : Nat} {t : TypeId} {xs : List Value} (h : Blk w b t xs) (k : Nat) (cs : List Value) (hc : ∀ j v, cs[j]? = some v → xs[k + j]? = some v) : w.rangeAt b k cs := fun j v hv => h.cell (k + j) v (hc j v hv)
theorem Blk.rw {w w' : World} {b : Nat} {t : TypeId} {cs : List Value} (h : Blk w b t cs) (hb : Rw w w') : Blk w' b t cs := h.below hb h.lt
theorem Rw.out {a b c : World} (h : Below a.heap.size a b) (k : Rw b c) : Below a.heap.size a c := h.trans (Below.mono k h.size)
theorem run_index_iv {P : Program} {t e : TypeId} {n : Nat} {k ke : IntKind} {l : List Int} (ht : P.underlying t = some (.array n e)) (he : P.underlying e = some (.int ke)) (hi : (P.info? e).map (·.size) = some 1) (hl : l.length = n) (q : Nat) (hq : q < n) (w : World) :
    (Instr.index t (.agg (iv k l).toArray) (.int .i64 (q : Nat))).run P w = .ok (.int k (l.getD q 0)) w := by
  have hg := iv_get k l q (by omega)
  cases hi2 : P.info? e with
  | none => rw [hi2] at hi; cases hi
  | some i =>
    rw [hi2] at hi
    have hz : i.size = 1 := by simpa using hi
    generalize iv k l = L at *
    generalize Value.int k (l.getD q 0) = v at *
    simp [Instr.index, run_underlying ht, hq, part, isAgg, run_underlying he, sizeOf, typeInfo, hi2, hz, hg, asIntOf]
theorem new_row (w : World) (t : TypeId) (z cs : List Value) : Blk ((w.alloc (.cells z.toArray t)).setRow w.heap.size cs.toArray) w.heap.size t cs ∧ Rw w ((w.alloc (.cells z.toArray t)).setRow w.heap.size cs.toArray) :=
  ⟨(Blk.new w t z).setRow cs, below_row (below1 w _) _ _ (Nat.le_refl _)⟩
/-- a contract that leaves new blocks alone is one for a quiet walk -/
theorem quiet_below {f : FuncId} {args : Array Value} {v : Value} {w0 w : World} (hw : Rw w0 w) (h : Calls Tryz.prog f args w fun e w' => e = .returned v ∧ Below w.heap.size w w') :
    Calls Tryz.prog f args w fun e w' => e = .returned v ∧ Rw w0 w' := h.mono fun _ _ ⟨he, hb⟩ => ⟨he, hw.trans hb⟩
theorem quiet_same {f : FuncId} {args : Array Value} {v : Value} {w0 w : World} (hw : Rw w0 w) (h : Calls Tryz.prog f args w fun e w' => e = .returned v ∧ w = w') :
    Calls Tryz.prog f args w fun e w' => e = .returned v ∧ Rw w0 w' := h.mono fun _ _ ⟨he, hb⟩ => ⟨he, hb ▸ hw⟩
end Go.Proofs.YtcbkbjpdfanjpaaGreatDoor
