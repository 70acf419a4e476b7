/-
A region that draws its order: a head of quiet operations (they read, or call what makes memory of its own), which may float among a tail of any operations that wait for each other in one forced order; the tail's own blocks may be anywhere behind the head's.
After the library's Derived/Orders.lean and Derived/Deep/Quiet.lean.
-/
import Derived.Test.YtcbkbjpdfanjpaaGreatDoorPk03
namespace Go.Proofs.YtcbkbjpdfanjpaaGreatDoor
open Go.RowKit
variable {P : Program} {md : Region.Mode} {ops : Array Oper} {w0 : World}

/-- only new blocks -/
def Rw (w w' : World) : Prop := Below w.heap.size w w'
theorem Rw.refl (w : World) : Rw w w := Below.refl _ _
theorem Rw.trans {a b c : World} (h : Rw a b) (k : Rw b c) : Rw a c := Below.trans h (Below.mono k h.size)
def QF : Exit → Act → World → Prop := fun _ _ _ => False
theorem not_lets : ¬ LetsOut QF := fun ⟨_, _, h⟩ => h
/-- in every world behind w0 operation o leaves v, and nothing but new blocks -/
def YieldsD (P : Program) (ops : Array Oper) (w0 : World) (o : Oper) (v : Value) (a : Act) : Prop :=
  (Region.wanted o (yielded ops a.tmps) = true ∧ ∀ w, Rw w0 w → o.quietAt P a (Rw w) w v) ∨ (Region.wanted o (yielded ops a.tmps) = false ∧ v = undef)
theorem YieldsD.of_same {o : Oper} {v : Value} {a a' : Act} (hy : YieldsD P ops w0 o v a) (he : execOp a'.eval o = execOp a.eval o)
    (hw : Region.wanted o (yielded ops a'.tmps) = Region.wanted o (yielded ops a.tmps)) : YieldsD P ops w0 o v a' := by
  unfold YieldsD Oper.quietAt at *
  rw [he, hw]
  exact hy
theorem quietUpon_mono {C D : World → Prop} {w : World} {v : Value} (h : ∀ w', C w' → D w') {r : Result Next} (hq : Oper.quietUpon P C w v r) : Oper.quietUpon P D w v r := by
  cases r with
  | ok n w' =>
    cases n <;> simp only [Oper.quietUpon] at hq ⊢
    case value u => exact hq
    case skip => exact hq
    case enter f args => exact ⟨hq.1, hq.2.mono fun e w'' ⟨h1, h2⟩ => ⟨h1, h _ h2⟩⟩
  | halt x w' => simp only [Oper.quietUpon] at hq
theorem YieldsD.wpOp {i : Nat} {o : Oper} {v : Value} {a : Act} {w : World} (hi : ops[i]? = some o) (hy : YieldsD P ops w0 o v a) (hw0 : Rw w0 w) {K : Act → World → Prop} {Q : Exit → Act → World → Prop}
    (h : ∀ w', Rw w w' → K (a.put o.dst v) w') : wpOp P ops Q i K a w := by
  unfold Go.wpOp
  simp only [hi]
  rcases hy with ⟨hw, hv⟩ | ⟨hw, rfl⟩
  · simp only [hw, if_true]
    refine .inl (Oper.wp_of_quiet (C := Rw w) (K := fun a' => a' = a.put o.dst v) (Rw.refl w) (fun a' w' hw' e => by subst e; exact h w' hw') ⟨v, fun w2 h2 => ?_, rfl⟩)
    exact quietUpon_mono (fun w' h' => h2.trans h') (hv w2 (hw0.trans h2))
  · simp only [hw, Bool.false_eq_true, if_false]; exact h w (Rw.refl w)
theorem wpOp_weak {i : Nat} {a : Act} {w : World} {K K' : Act → World → Prop} {Q : Exit → Act → World → Prop} (hK : ∀ a w, K a w → K' a w) (h : wpOp P ops QF i K a w) : wpOp P ops Q i K' a w := by
  unfold wpOp at *
  split
  · rename_i ho; simp only [ho] at h; exact hK _ _ h
  · rename_i o ho
    simp only [ho] at h
    split
    · rename_i hw
      simp only [hw, if_true] at h
      rcases h with h | ⟨_, hl⟩
      · refine .inl ?_
        unfold Oper.wp at *
        generalize (execOp a.eval o).run P w = r at *
        cases r with
        | ok n w' =>
          cases n <;> simp only [Oper.upon] at h ⊢
          case value u => exact hK _ _ h
          case skip => exact hK _ _ h
          case defer d => exact hK _ _ h
          case enter f args =>
            refine Calls.mono h fun e w'' he => ?_
            cases e with
            | returned u => exact hK _ _ he
            | panicked c => exact he.elim
            | outgrown => exact (not_lets he).elim
          case row row args => exact Rows.mono h fun u w'' he => hK _ _ he
        | halt x w' =>
          cases x <;> simp only [Oper.upon] at h ⊢
          case panic u => exact h.elim
      · exact (not_lets hl).elim
    · rename_i hw; simp only [hw] at h; exact hK _ _ h
theorem wpOp_putD {j : Nat} {oi oj : Oper} {v : Value} (hj : ops[j]? = some oj) (hap : oi.apart ops oj = true)
    (hsi : ∀ cs b, oi.op ≠ .select cs b) (hsj : ∀ cs b, oj.op ≠ .select cs b) {K : Act → World → Prop} {a : Act} {w : World}
    (hy : YieldsD P ops w0 oi v a) (h : wpOp P ops QF j K (a.put oi.dst v) w) :
    wpOp P ops QF j (fun a' w' => YieldsD P ops w0 oi v a' ∧ K (a'.put oi.dst v) w') a w := by
  obtain ⟨h1, h2, h3⟩ := Oper.apart_spec hap
  have keep : ∀ (a : Act), YieldsD P ops w0 oi v a → ∀ u, YieldsD P ops w0 oi v (a.put oj.dst u) := fun a hy u =>
    hy.of_same (execOp_put oi hsi a oj.dst u h3) (wanted_put oi a oj.dst u h3)
  have keepD : ∀ d, YieldsD P ops w0 oi v { a with defers := d :: a.defers } := fun d => hy.of_same rfl rfl
  unfold wpOp at *
  simp only [hj] at *
  rw [wanted_put oj a oi.dst v h1] at h
  split
  · rename_i hw
    simp only [hw, if_true] at h
    rcases h with h | ⟨_, hlets⟩
    case inr => exact (not_lets hlets).elim
    refine .inl ?_
    unfold Oper.wp at *
    rw [execOp_put oj hsj a oi.dst v h1] at h
    generalize (execOp a.eval oj).run P w = r at *
    cases r with
    | ok n w' =>
      cases n <;> simp only [Oper.upon] at h ⊢
      case value u => exact ⟨keep a hy u, by rw [← Act.put_comm a v u h2]; exact h⟩
      case skip => exact ⟨keep a hy _, by rw [← Act.put_comm a v undef h2]; exact h⟩
      case defer d =>
        refine ⟨keep _ (keepD d) _, ?_⟩
        rw [← Act.put_comm _ v undef h2, ← Act.put_defers]
        exact h
      case enter f args =>
        refine Calls.mono h fun e w'' he => ?_
        cases e with
        | returned u => exact ⟨keep a hy u, by rw [← Act.put_comm a v u h2]; exact he⟩
        | panicked c => exact he
        | outgrown => exact he
      case row row args => exact Rows.mono h fun u w'' he => ⟨keep a hy u, by rw [← Act.put_comm a v u h2]; exact he⟩
    | halt x w' =>
      cases x <;> simp only [Oper.upon] at h ⊢
      case panic u => exact h
  · rename_i hw
    simp only [hw] at h
    exact ⟨keep a hy _, by rw [← Act.put_comm a v undef h2]; exact h⟩

/-- whatever order is picked from here on, with new blocks between -/
def wpDr (P : Program) (md : Region.Mode) (ops : Array Oper) (w0 : World) (K : Act → World → Prop) : Nat → Array Bool → Act → World → Prop
  | 0, listed, a, w => Region.ready md ops listed = [] ∧ ∀ w1, Rw w w1 → K a w1
  | f + 1, listed, a, w => (Region.ready md ops listed = [] → ∀ w1, Rw w w1 → K a w1) ∧
    ∀ i ∈ Region.ready md ops listed, ∀ w1, Rw w w1 → wpOp P ops QF i (fun a' w' => Rw w0 w' ∧ wpDr P md ops w0 K f (listed.setIfInBounds i true) a' w') a w1
theorem wpDr_drift {K : Act → World → Prop} : ∀ (f : Nat) (listed : Array Bool) (a : Act) (w w1 : World), wpDr P md ops w0 K f listed a w → Rw w w1 → wpDr P md ops w0 K f listed a w1
  | 0, _, _, _, _, h, hw => ⟨h.1, fun w2 h2 => h.2 w2 (hw.trans h2)⟩
  | _ + 1, _, _, _, _, h, hw => ⟨fun e w2 h2 => h.1 e w2 (hw.trans h2), fun i hi w2 h2 => h.2 i hi w2 (hw.trans h2)⟩
theorem wpAny_of_dr {K : Act → World → Prop} {Q : Exit → Act → World → Prop} (hQ : ∀ a w, K a w → Q .normal a w) : ∀ (f : Nat) (listed : Array Bool) (a : Act) (w : World), wpDr P md ops w0 K f listed a w → wpAny P md ops Q f listed a w
  | 0, _, _, _, h => ⟨h.1, hQ _ _ (h.2 _ (Rw.refl _))⟩
  | f + 1, _, _, _, h => ⟨fun e => hQ _ _ (h.1 e _ (Rw.refl _)), fun i hi => wpOp_weak (fun a' w' h' => wpAny_of_dr hQ f _ a' w' h'.2) (h.2 i hi _ (Rw.refl _))⟩
theorem wpDr_first {K : Act → World → Prop} {i : Nat} {oi : Oper} {v : Value} (hi : ops[i]? = some oi) (hsel : ∀ (j : Nat) (o : Oper) cs b, ops[j]? = some o → o.op ≠ .select cs b) :
    ∀ (f : Nat) (listed : Array Bool) (a : Act) (w : World),
      (∀ j oj, ops[j]? = some oj → j ≠ i → listed.getD j true = false → (∀ e ∈ oj.after, Region.binds md e = true → e.on ≠ i) → oi.apart ops oj = true) →
      i ∈ Region.ready md ops listed → YieldsD P ops w0 oi v a → Rw w0 w → wpDr P md ops w0 K f (listed.setIfInBounds i true) (a.put oi.dst v) w → wpDr P md ops w0 K (f + 1) listed a w := by
  intro f
  induction f with
  | zero =>
    intro listed a w _ hr hy h0 H
    refine ⟨fun h => (by rw [h] at hr; cases hr), fun j hj w1 h1 => ?_⟩
    by_cases hji : j = i
    · subst hji; exact hy.wpOp hi (h0.trans h1) fun w' hw' => ⟨(h0.trans h1).trans hw', wpDr_drift 0 _ _ _ _ H (h1.trans hw')⟩
    · have := ready_mono hj hji
      rw [H.1] at this
      cases this
  | succ f ih =>
    intro listed a w hfree hr hy h0 H
    refine ⟨fun h => (by rw [h] at hr; cases hr), fun j hj w1 h1 => ?_⟩
    by_cases hji : j = i
    · subst hji; exact hy.wpOp hi (h0.trans h1) fun w' hw' => ⟨(h0.trans h1).trans hw', wpDr_drift (f + 1) _ _ _ _ H (h1.trans hw')⟩
    · have h2 := H.2 j (ready_mono hj hji) w1 h1
      obtain ⟨hjun, oj, hoj, hall⟩ := mem_ready.1 hj
      have hnot : ∀ e ∈ oj.after, Region.binds md e = true → e.on ≠ i := fun e he hb heq => by
        have h1 := hall e he hb
        have h0 := (mem_ready.1 hr).1
        rw [heq] at h1
        rcases Nat.lt_or_ge i listed.size with h' | h'
        · simp [h'] at h0 h1; rw [h0] at h1; cases h1
        · simp [Array.getElem?_eq_none h'] at h1
      have h3 := wpOp_putD hoj (hfree j oj hoj hji hjun hnot) (fun cs b => hsel i oi cs b hi) (fun cs b => hsel j oj cs b hoj) hy h2
      have hfree' : ∀ k ok, ops[k]? = some ok → k ≠ i → (listed.setIfInBounds j true).getD k true = false →
          (∀ e ∈ ok.after, Region.binds md e = true → e.on ≠ i) → oi.apart ops ok = true := fun k ok hk hki hun hno => by
        refine hfree k ok hk hki ?_ hno
        by_cases hjk : j = k
        · subst hjk; exact hjun
        · rw [getD_set_ne true hjk] at hun; exact hun
      refine wpOp_mono (fun a' w' h4 => ⟨h4.2.1, ih (listed.setIfInBounds j true) a' w' hfree' (ready_mono hr (Ne.symm hji)) h4.1 h4.2.1 ?_⟩) h3
      rw [Array.setIfInBounds_comm _ _ hji]
      exact h4.2.2

/-! ### the tail -/
def wpListD (P : Program) (ops : Array Oper) (w0 : World) (K : Act → World → Prop) : List Oper → Act → World → Prop
  | [], a, w => ∀ w1, Rw w w1 → K a w1
  | o :: rest, a, w => ∀ w1, Rw w w1 → wpList P ops (fun e a' w' => e = .normal ∧ Rw w0 w' ∧ wpListD P ops w0 K rest a' w') [o] a w1
theorem driftT_step {K : Act → World → Prop} {o : Oper} {rest : List Oper} {a : Act} {w : World}
    (h : ∀ w1, Rw w w1 → ∀ Q' : Exit → Act → World → Prop, (∀ a' w', Rw w0 w' → wpListD P ops w0 K rest a' w' → Q' .normal a' w') → wpList P ops Q' [o] a w1) : wpListD P ops w0 K (o :: rest) a w :=
  fun w1 h1 => h w1 h1 _ fun _ _ h2 h3 => ⟨rfl, h2, h3⟩
theorem wpOp_of_one {K : Act → World → Prop} {i : Nat} {o : Oper} {a : Act} {w : World} (hi : ops[i]? = some o) (h : wpList P ops (fun e a' w' => e = Exit.normal ∧ K a' w') [o] a w) : wpOp P ops QF i K a w := by
  unfold wpOp
  simp only [hi]
  simp only [wpList] at h
  split
  · rename_i hw
    simp only [hw, if_true] at h
    rcases h with h | ⟨_, a', w', hl⟩
    · refine .inl ?_
      unfold Oper.wp at *
      generalize (execOp a.eval o).run P w = r at *
      cases r with
      | ok n w' =>
        cases n <;> simp only [Oper.upon] at h ⊢
        case value u => exact h.2
        case skip => exact h.2
        case defer d => exact h.2
        case enter f args =>
          refine Calls.mono h fun e w'' he => ?_
          cases e with
          | returned u => exact he.2
          | panicked c => cases he.1
          | outgrown => obtain ⟨_, _, hl⟩ := he; cases hl.1
        case row row args => exact Rows.mono h fun u w'' he => he.2
      | halt x w' =>
        cases x <;> simp only [Oper.upon] at h ⊢
        case panic u => cases h.1
    · cases hl.1
  · rename_i hw; simp only [hw] at h; exact h.2
theorem wpDr_seq {K : Act → World → Prop} : ∀ (l : List Oper) (k : Nat) (listed : Array Bool) (a : Act) (w : World), (∀ j, l[j]? = ops[k + j]?) → Region.seqB md ops l.length k listed = true →
    wpListD P ops w0 K l a w → wpDr P md ops w0 K l.length listed a w
  | [], _, _, _, _, _, hB, h => ⟨by simpa [Region.seqB] using hB, h⟩
  | o :: l, k, listed, a, w, hl, hB, h => by
    have h0 : ops[k]? = some o := by simpa using (hl 0).symm
    simp only [List.length_cons, Region.seqB, Bool.and_eq_true, decide_eq_true_eq] at hB
    refine ⟨fun h1 => (by rw [hB.1] at h1; cases h1), fun i hi w1 h1 => ?_⟩
    rw [hB.1] at hi
    have hik : i = k := by simpa using hi
    subst hik
    refine wpOp_mono (fun a' w' h' => ⟨h'.1, wpDr_seq l (i + 1) _ a' w' (fun j => by have := hl (j + 1); simpa [Nat.add_assoc, Nat.add_comm 1 j] using this) hB.2 h'.2⟩) (wpOp_of_one (K := fun a' w' => Rw w0 w' ∧ wpListD P ops w0 K l a' w') h0 (h w1 h1))

/-! ### the head -/
def wpQD (P : Program) (ops : Array Oper) (w0 : World) (Kq : Act → Prop) : List Oper → Act → Prop
  | [], a => Kq a
  | o :: rest, a => if Region.wanted o (yielded ops a.tmps) then ∃ v, (∀ w, Rw w0 w → o.quietAt P a (Rw w) w v) ∧ wpQD P ops w0 Kq rest (a.put o.dst v) else wpQD P ops w0 Kq rest (a.put o.dst undef)
theorem drift_nil {Kq : Act → Prop} {a : Act} (h : Kq a) : wpQD P ops w0 Kq [] a := h
theorem drift_step {Kq : Act → Prop} {a : Act} {o : Oper} {rest : List Oper}
    (h : ∀ K : Act → Prop, (∀ a, wpQD P ops w0 Kq rest a → K a) → if Region.wanted o (yielded ops a.tmps) then ∃ v, (∀ w, Rw w0 w → o.quietAt P a (Rw w) w v) ∧ K (a.put o.dst v) else K (a.put o.dst undef)) : wpQD P ops w0 Kq (o :: rest) a :=
  h _ (fun _ h => h)
theorem wpDr_head {K : Act → World → Prop} {g n : Nat} (hsel : Region.noSelect ops = true) (w : World) (hw : Rw w0 w) :
    ∀ (l : List Oper) (k : Nat) (listed : Array Bool) (a : Act), (∀ j, j < l.length → l[j]? = ops[k + j]?) → k + l.length = n → Region.lexHead md ops g l.length k listed = true →
      wpQD P ops w0 (fun a' => ∀ listed, Region.seqB md ops g n listed = true → wpDr P md ops w0 K g listed a' w) l a → wpDr P md ops w0 K (l.length + g) listed a w
  | [], k, listed, a, _, hk, hB, h => by
    obtain rfl : k = n := by simpa using hk
    simp only [List.length_nil, Nat.zero_add]
    exact h listed hB
  | o :: l, k, listed, a, hl, hk, hB, h => by
    have h0 : ops[k]? = some o := (hl 0 (Nat.zero_lt_succ _)).symm
    simp only [List.length_cons, Region.lexHead, Bool.and_eq_true] at hB
    simp only [List.length_cons] at hk
    have hr : k ∈ Region.ready md ops listed := by simpa using hB.1.1
    have hrest : ∀ j, j < l.length → l[j]? = ops[k + 1 + j]? := fun j hj => by
      have := hl (j + 1) (Nat.succ_lt_succ hj)
      rw [List.getElem?_cons_succ] at this
      rw [this, Nat.add_right_comm, Nat.add_assoc]
    rw [show (o :: l).length + g = (l.length + g) + 1 by simp only [List.length_cons]; omega]
    simp only [wpQD] at h
    by_cases hwt : Region.wanted o (yielded ops a.tmps) = true
    · simp only [hwt, if_true] at h
      obtain ⟨v, hv, hK⟩ := h
      exact wpDr_first h0 (Region.noSelect_spec hsel) (l.length + g) listed a w (Region.free_spec h0 hB.1.2) hr (.inl ⟨hwt, hv⟩) hw (wpDr_head hsel w hw l (k + 1) _ _ hrest (by omega) hB.2 hK)
    · simp only [hwt] at h
      exact wpDr_first h0 (Region.noSelect_spec hsel) (l.length + g) listed a w (Region.free_spec h0 hB.1.2) hr (.inr ⟨by simpa using hwt, rfl⟩) hw (wpDr_head hsel w hw l (k + 1) _ _ hrest (by omega) hB.2 h)
def driftB (md : Region.Mode) (ops : Array Oper) (n : Nat) : Bool := Region.noSelect ops && decide (n ≤ ops.size) && Region.lexHead md ops (ops.size - n) n 0 (Array.replicate ops.size false)
/-- the region -/
theorem wp_region_drift {id : Nat} {Q : Exit → Act → World → Prop} {a : Act} {w : World} {l : List Oper} (n : Nat) (hm : P.follows .mixedOrders = true) (hB : driftB .any l.toArray n = true)
    (h : wpQD P l.toArray w.drew (fun a' => wpListD P l.toArray w.drew (fun a'' w'' => Q .normal a'' w'') (l.drop n) a' w.drew) (l.take n) a) : (Code.region id l.toArray true).wp P Q a w := by
  simp only [driftB, Bool.and_eq_true, decide_eq_true_eq] at hB
  obtain ⟨⟨hsel, hn⟩, hlex⟩ := hB
  have hn' : n ≤ l.length := by simpa using hn
  have htl : (l.take n).length = n := by rw [List.length_take]; omega
  have hg : l.toArray.size - n = (l.drop n).length := by simp
  rw [hg] at hlex
  have mono : ∀ (m : List Oper) (a : Act), wpQD P l.toArray w.drew (fun a' => wpListD P l.toArray w.drew (fun a'' w'' => Q .normal a'' w'') (l.drop n) a' w.drew) m a →
      wpQD P l.toArray w.drew (fun a' => ∀ listed, Region.seqB .any l.toArray (l.drop n).length n listed = true → wpDr P .any l.toArray w.drew (fun a'' w'' => Q .normal a'' w'') (l.drop n).length listed a' w.drew) m a := by
    intro m
    induction m with
    | nil => intro a h listed hs; exact wpDr_seq (l.drop n) n listed a w.drew (fun j => by simp) hs h
    | cons o m ih =>
      intro a h
      simp only [wpQD] at h ⊢
      split
      · rename_i hw; simp only [hw, if_true] at h; obtain ⟨v, h1, h2⟩ := h; exact ⟨v, h1, ih _ h2⟩
      · rename_i hw; simp only [hw] at h; exact ih _ h
  have G := wpDr_head (md := .any) (g := (l.drop n).length) (n := n) hsel w.drew (Rw.refl _) (l.take n) 0 (Array.replicate l.toArray.size false) a
    (fun j hj => by rw [htl] at hj; simp [hj]) (by omega) (by rw [htl]; exact hlex) (mono _ _ h)
  refine wp_region_any hm ?_
  rw [htl, show n + (l.drop n).length = l.toArray.size from by simp; omega] at G
  exact wpAny_of_dr (fun _ _ h => h) _ _ _ _ G

/-! ### steps -/
theorem drift_plain {a : Act} {o : Oper} {K : Act → Prop} (v : Value) (hg : Region.wanted o (yielded ops a.tmps) = true) (hv : ∀ w, Rw w0 w → (execOp a.eval o).run P w = .ok (.value v) w) (h : K (a.put o.dst v)) :
    if Region.wanted o (yielded ops a.tmps) then ∃ v, (∀ w, Rw w0 w → o.quietAt P a (Rw w) w v) ∧ K (a.put o.dst v) else K (a.put o.dst undef) := by
  rw [if_pos hg]
  exact ⟨v, fun w hw => by unfold Oper.quietAt; rw [hv w hw]; exact ⟨rfl, rfl⟩, h⟩
theorem drift_call {a : Act} {o : Oper} {K : Act → Prop} (v : Value) (f : FuncId) (args : Array Value) (hg : Region.wanted o (yielded ops a.tmps) = true) (hv : ∀ w, (execOp a.eval o).run P w = .ok (.enter f args) w)
    (hc : ∀ w, Rw w0 w → Calls P f args w fun e w' => e = .returned v ∧ Rw w w') (h : K (a.put o.dst v)) :
    if Region.wanted o (yielded ops a.tmps) then ∃ v, (∀ w, Rw w0 w → o.quietAt P a (Rw w) w v) ∧ K (a.put o.dst v) else K (a.put o.dst undef) := by
  rw [if_pos hg]
  exact ⟨v, fun w hw => by unfold Oper.quietAt; rw [hv w]; exact ⟨rfl, hc w hw⟩, h⟩
theorem drift_load {a : Act} {o : Oper} {K : Act → Prop} {b ty n : Nat} {d : TypeDesc} {x : Operand} {cs : List Value} {t : TypeId} (hb : ∀ w, Rw w0 w → Blk w b t cs)
    (hu : P.underlying ty = some d) (hd : wide d = true) (hi : (P.info? ty).map (·.size) = some n) (hn : cs.length = n) (hg : Region.wanted o (yielded ops a.tmps) = true) (ho : o.op = .load ty x) (hx : a.eval x = .pointer (some ⟨b, 0, none⟩))
    (h : K (a.put o.dst (.agg cs.toArray))) : if Region.wanted o (yielded ops a.tmps) then ∃ v, (∀ w, Rw w0 w → o.quietAt P a (Rw w) w v) ∧ K (a.put o.dst v) else K (a.put o.dst undef) :=
  drift_plain (.agg cs.toArray) hg (fun w hw => by
    unfold execOp
    simp only [ho, hx, Instr.loadAt, Instr.sureAddr, Sem.run_bind, Sem.run_pure, Result.andThen_ok, run_loadVar_row w b t ty cs.toArray (0, 0) d (hb w hw) hu (by cases d <;> first | rfl | cases hd) (by rw [hi]; simp [hn])]) h
end Go.Proofs.YtcbkbjpdfanjpaaGreatDoor
