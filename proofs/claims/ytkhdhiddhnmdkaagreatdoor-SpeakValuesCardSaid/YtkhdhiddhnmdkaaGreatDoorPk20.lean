/-
As Drift, but the tail may write blocks of a given set F too: the floating head reads none of these.
A clamped scalar: its bytes and its number.
-/
import Derived.Test.YtkhdhiddhnmdkaaGreatDoorPk18
import Derived.Test.YtkhdhiddhnmdkaaGreatDoorPk16
import Derived.Test.YtkhdhiddhnmdkaaGreatDoorPk17
namespace Go.Proofs.YtkhdhiddhnmdkaaGreatDoor.DK
open Go.RowKit
variable {P : Program} {md : Region.Mode} {ops : Array Oper} {w0 : World}

structure MutF where
  F : Nat → Prop
variable [Inhabited MutF]
/-- new blocks, and writes to the blocks of F -/
def Rk (w w' : World) : Prop := Keeps (default : MutF).F w w'
theorem Rk.refl (w : World) : Rk w w := Keeps.refl _ _
theorem Rk.trans {a b c : World} (h : Rk a b) (k : Rw b c) : Rk a c := Keeps.trans h (⟨k.os, k.tape, k.output, k.size, fun i hi _ => k.block i hi⟩ : Keeps (default : MutF).F b c) (fun _ _ h => h)
/-- in every world behind w0 operation o leaves v, and nothing but new blocks -/
def YieldsD (P : Program) (ops : Array Oper) (w0 : World) (o : Oper) (v : Value) (a : Act) : Prop :=
  (Region.wanted o (yielded ops a.tmps) = true ∧ ∀ w, Rk w0 w → o.quietAt P a (Rw w) w v) ∨ (Region.wanted o (yielded ops a.tmps) = false ∧ v = undef)
theorem YieldsD.of_same {o : Oper} {v : Value} {a a' : Act} (hy : YieldsD P ops w0 o v a) (he : execOp a'.eval o = execOp a.eval o)
    (hw : Region.wanted o (yielded ops a'.tmps) = Region.wanted o (yielded ops a.tmps)) : YieldsD P ops w0 o v a' := by
  unfold YieldsD Oper.quietAt at *
  rw [he, hw]
  exact hy
theorem YieldsD.wpOp {i : Nat} {o : Oper} {v : Value} {a : Act} {w : World} (hi : ops[i]? = some o) (hy : YieldsD P ops w0 o v a) (hw0 : Rk w0 w) {K : Act → World → Prop} {Q : Exit → Act → World → Prop}
    (h : ∀ w', Rw w w' → K (a.put o.dst v) w') : wpOp P ops Q i K a w := by
  unfold Go.wpOp
  simp only [hi]
  rcases hy with ⟨hw, hv⟩ | ⟨hw, rfl⟩
  · simp only [hw, if_true]
    refine .inl (Oper.wp_of_quiet (C := Rw w) (K := fun a' => a' = a.put o.dst v) (Rw.refl w) (fun a' w' hw' e => by subst e; exact h w' hw') ⟨v, fun w2 h2 => ?_, rfl⟩)
    exact quietUpon_mono (fun w' h' => h2.trans h') (hv w2 (hw0.trans h2))
  · simp only [hw, Bool.false_eq_true, if_false]; exact h w (Rw.refl w)
theorem wpOp_putD {j : Nat} {oi oj : Oper} {v : Value} (hj : ops[j]? = some oj) (hap : oi.apart ops oj = true)
    (hsi : ∀ cs b, oi.op ≠ .select cs b) (hsj : ∀ cs b, oj.op ≠ .select cs b) {K : Act → World → Prop} {a : Act} {w : World}
    (hy : YieldsD P ops w0 oi v a) (h : wpOp P ops QF j K (a.put oi.dst v) w) :
    wpOp P ops QF j (fun a' w' => YieldsD P ops w0 oi v a' ∧ K (a'.put oi.dst v) w') a w := by
  obtain ⟨h1, h2, h3⟩ := Oper.apart_spec hap
  have keep : ∀ (a : Act), YieldsD P ops w0 oi v a → ∀ u, YieldsD P ops w0 oi v (a.put oj.dst u) := fun a hy u =>
    hy.of_same (execOp_put oi hsi a oj.dst u h3) (wanted_put oi a oj.dst u h3)
  have keepD : ∀ d, YieldsD P ops w0 oi v { a with defers := d :: a.defers } := fun d => hy.of_same rfl rfl
  unfold wpOp at *
  simp only [hj] at *
  rw [wanted_put oj a oi.dst v h1] at h
  split
  · rename_i hw
    simp only [hw, if_true] at h
    rcases h with h | ⟨_, hlets⟩
    case inr => exact (not_lets hlets).elim
    refine .inl ?_
    unfold Oper.wp at *
    rw [execOp_put oj hsj a oi.dst v h1] at h
    generalize (execOp a.eval oj).run P w = r at *
    cases r with
    | ok n w' =>
      cases n <;> simp only [Oper.upon] at h ⊢
      case value u => exact ⟨keep a hy u, by rw [← Act.put_comm a v u h2]; exact h⟩
      case skip => exact ⟨keep a hy _, by rw [← Act.put_comm a v undef h2]; exact h⟩
      case defer d =>
        refine ⟨keep _ (keepD d) _, ?_⟩
        rw [← Act.put_comm _ v undef h2, ← Act.put_defers]
        exact h
      case enter f args =>
        refine Calls.mono h fun e w'' he => ?_
        cases e with
        | returned u => exact ⟨keep a hy u, by rw [← Act.put_comm a v u h2]; exact he⟩
        | panicked c => exact he
        | outgrown => exact he
      case row row args => exact Rows.mono h fun u w'' he => ⟨keep a hy u, by rw [← Act.put_comm a v u h2]; exact he⟩
    | halt x w' =>
      cases x <;> simp only [Oper.upon] at h ⊢
      case panic u => exact h
  · rename_i hw
    simp only [hw] at h
    exact ⟨keep a hy _, by rw [← Act.put_comm a v undef h2]; exact h⟩

/-- whatever order is picked from here on, with new blocks between -/
def wpDr (P : Program) (md : Region.Mode) (ops : Array Oper) (w0 : World) (K : Act → World → Prop) : Nat → Array Bool → Act → World → Prop
  | 0, listed, a, w => Region.ready md ops listed = [] ∧ ∀ w1, Rw w w1 → K a w1
  | f + 1, listed, a, w => (Region.ready md ops listed = [] → ∀ w1, Rw w w1 → K a w1) ∧
    ∀ i ∈ Region.ready md ops listed, ∀ w1, Rw w w1 → wpOp P ops QF i (fun a' w' => Rk w0 w' ∧ wpDr P md ops w0 K f (listed.setIfInBounds i true) a' w') a w1
theorem wpDr_drift {K : Act → World → Prop} : ∀ (f : Nat) (listed : Array Bool) (a : Act) (w w1 : World), wpDr P md ops w0 K f listed a w → Rw w w1 → wpDr P md ops w0 K f listed a w1
  | 0, _, _, _, _, h, hw => ⟨h.1, fun w2 h2 => h.2 w2 (hw.trans h2)⟩
  | _ + 1, _, _, _, _, h, hw => ⟨fun e w2 h2 => h.1 e w2 (hw.trans h2), fun i hi w2 h2 => h.2 i hi w2 (hw.trans h2)⟩
theorem wpAny_of_dr {K : Act → World → Prop} {Q : Exit → Act → World → Prop} (hQ : ∀ a w, K a w → Q .normal a w) : ∀ (f : Nat) (listed : Array Bool) (a : Act) (w : World), wpDr P md ops w0 K f listed a w → wpAny P md ops Q f listed a w
  | 0, _, _, _, h => ⟨h.1, hQ _ _ (h.2 _ (Rw.refl _))⟩
  | f + 1, _, _, _, h => ⟨fun e => hQ _ _ (h.1 e _ (Rw.refl _)), fun i hi => wpOp_weak (fun a' w' h' => wpAny_of_dr hQ f _ a' w' h'.2) (h.2 i hi _ (Rw.refl _))⟩
theorem wpDr_first {K : Act → World → Prop} {i : Nat} {oi : Oper} {v : Value} (hi : ops[i]? = some oi) (hsel : ∀ (j : Nat) (o : Oper) cs b, ops[j]? = some o → o.op ≠ .select cs b) :
    ∀ (f : Nat) (listed : Array Bool) (a : Act) (w : World),
      (∀ j oj, ops[j]? = some oj → j ≠ i → listed.getD j true = false → (∀ e ∈ oj.after, Region.binds md e = true → e.on ≠ i) → oi.apart ops oj = true) →
      i ∈ Region.ready md ops listed → YieldsD P ops w0 oi v a → Rk w0 w → wpDr P md ops w0 K f (listed.setIfInBounds i true) (a.put oi.dst v) w → wpDr P md ops w0 K (f + 1) listed a w := by
  intro f
  induction f with
  | zero =>
    intro listed a w _ hr hy h0 H
    refine ⟨fun h => (by rw [h] at hr; cases hr), fun j hj w1 h1 => ?_⟩
    by_cases hji : j = i
    · subst hji; exact hy.wpOp hi (h0.trans h1) fun w' hw' => ⟨(h0.trans h1).trans hw', wpDr_drift 0 _ _ _ _ H (h1.trans hw')⟩
    · have := ready_mono hj hji
      rw [H.1] at this
      cases this
  | succ f ih =>
    intro listed a w hfree hr hy h0 H
    refine ⟨fun h => (by rw [h] at hr; cases hr), fun j hj w1 h1 => ?_⟩
    by_cases hji : j = i
    · subst hji; exact hy.wpOp hi (h0.trans h1) fun w' hw' => ⟨(h0.trans h1).trans hw', wpDr_drift (f + 1) _ _ _ _ H (h1.trans hw')⟩
    · have h2 := H.2 j (ready_mono hj hji) w1 h1
      obtain ⟨hjun, oj, hoj, hall⟩ := mem_ready.1 hj
      have hnot : ∀ e ∈ oj.after, Region.binds md e = true → e.on ≠ i := fun e he hb heq => by
        have h1 := hall e he hb
        have h0 := (mem_ready.1 hr).1
        rw [heq] at h1
        rcases Nat.lt_or_ge i listed.size with h' | h'
        · simp [h'] at h0 h1; rw [h0] at h1; cases h1
        · simp [Array.getElem?_eq_none h'] at h1
      have h3 := wpOp_putD hoj (hfree j oj hoj hji hjun hnot) (fun cs b => hsel i oi cs b hi) (fun cs b => hsel j oj cs b hoj) hy h2
      have hfree' : ∀ k ok, ops[k]? = some ok → k ≠ i → (listed.setIfInBounds j true).getD k true = false →
          (∀ e ∈ ok.after, Region.binds md e = true → e.on ≠ i) → oi.apart ops ok = true := fun k ok hk hki hun hno => by
        refine hfree k ok hk hki ?_ hno
        by_cases hjk : j = k
        · subst hjk; exact hjun
        · rw [getD_set_ne true hjk] at hun; exact hun
      refine wpOp_mono (fun a' w' h4 => ⟨h4.2.1, ih (listed.setIfInBounds j true) a' w' hfree' (ready_mono hr (Ne.symm hji)) h4.1 h4.2.1 ?_⟩) h3
      rw [Array.setIfInBounds_comm _ _ hji]
      exact h4.2.2

/-! ### the tail -/
def wpListD (P : Program) (ops : Array Oper) (w0 : World) (K : Act → World → Prop) : List Oper → Act → World → Prop
  | [], a, w => ∀ w1, Rw w w1 → K a w1
  | o :: rest, a, w => ∀ w1, Rw w w1 → wpList P ops (fun e a' w' => e = .normal ∧ Rk w0 w' ∧ wpListD P ops w0 K rest a' w') [o] a w1
theorem driftT_step {K : Act → World → Prop} {o : Oper} {rest : List Oper} {a : Act} {w : World}
    (h : ∀ w1, Rw w w1 → ∀ Q' : Exit → Act → World → Prop, (∀ a' w', Rk w0 w' → wpListD P ops w0 K rest a' w' → Q' .normal a' w') → wpList P ops Q' [o] a w1) : wpListD P ops w0 K (o :: rest) a w :=
  fun w1 h1 => h w1 h1 _ fun _ _ h2 h3 => ⟨rfl, h2, h3⟩
theorem wpDr_seq {K : Act → World → Prop} : ∀ (l : List Oper) (k : Nat) (listed : Array Bool) (a : Act) (w : World), (∀ j, l[j]? = ops[k + j]?) → Region.seqB md ops l.length k listed = true →
    wpListD P ops w0 K l a w → wpDr P md ops w0 K l.length listed a w
  | [], _, _, _, _, _, hB, h => ⟨by simpa [Region.seqB] using hB, h⟩
  | o :: l, k, listed, a, w, hl, hB, h => by
    have h0 : ops[k]? = some o := by simpa using (hl 0).symm
    simp only [List.length_cons, Region.seqB, Bool.and_eq_true, decide_eq_true_eq] at hB
    refine ⟨fun h1 => (by rw [hB.1] at h1; cases h1), fun i hi w1 h1 => ?_⟩
    rw [hB.1] at hi
    have hik : i = k := by simpa using hi
    subst hik
    refine wpOp_mono (fun a' w' h' => ⟨h'.1, wpDr_seq l (i + 1) _ a' w' (fun j => by have := hl (j + 1); simpa [Nat.add_assoc, Nat.add_comm 1 j] using this) hB.2 h'.2⟩) (wpOp_of_one (K := fun a' w' => Rk w0 w' ∧ wpListD P ops w0 K l a' w') h0 (h w1 h1))

/-! ### the head -/
def wpQD (P : Program) (ops : Array Oper) (w0 : World) (Kq : Act → Prop) : List Oper → Act → Prop
  | [], a => Kq a
  | o :: rest, a => if Region.wanted o (yielded ops a.tmps) then ∃ v, (∀ w, Rk w0 w → o.quietAt P a (Rw w) w v) ∧ wpQD P ops w0 Kq rest (a.put o.dst v) else wpQD P ops w0 Kq rest (a.put o.dst undef)
theorem drift_nil {Kq : Act → Prop} {a : Act} (h : Kq a) : wpQD P ops w0 Kq [] a := h
theorem drift_step {Kq : Act → Prop} {a : Act} {o : Oper} {rest : List Oper}
    (h : ∀ K : Act → Prop, (∀ a, wpQD P ops w0 Kq rest a → K a) → if Region.wanted o (yielded ops a.tmps) then ∃ v, (∀ w, Rk w0 w → o.quietAt P a (Rw w) w v) ∧ K (a.put o.dst v) else K (a.put o.dst undef)) : wpQD P ops w0 Kq (o :: rest) a :=
  h _ (fun _ h => h)
theorem wpDr_head {K : Act → World → Prop} {g n : Nat} (hsel : Region.noSelect ops = true) (w : World) (hw : Rk w0 w) :
    ∀ (l : List Oper) (k : Nat) (listed : Array Bool) (a : Act), (∀ j, j < l.length → l[j]? = ops[k + j]?) → k + l.length = n → Region.lexHead md ops g l.length k listed = true →
      wpQD P ops w0 (fun a' => ∀ listed, Region.seqB md ops g n listed = true → wpDr P md ops w0 K g listed a' w) l a → wpDr P md ops w0 K (l.length + g) listed a w
  | [], k, listed, a, _, hk, hB, h => by
    obtain rfl : k = n := by simpa using hk
    simp only [List.length_nil, Nat.zero_add]
    exact h listed hB
  | o :: l, k, listed, a, hl, hk, hB, h => by
    have h0 : ops[k]? = some o := (hl 0 (Nat.zero_lt_succ _)).symm
    simp only [List.length_cons, Region.lexHead, Bool.and_eq_true] at hB
    simp only [List.length_cons] at hk
    have hr : k ∈ Region.ready md ops listed := by simpa using hB.1.1
    have hrest : ∀ j, j < l.length → l[j]? = ops[k + 1 + j]? := fun j hj => by
      have := hl (j + 1) (Nat.succ_lt_succ hj)
      rw [List.getElem?_cons_succ] at this
      rw [this, Nat.add_right_comm, Nat.add_assoc]
    rw [show (o :: l).length + g = (l.length + g) + 1 by simp only [List.length_cons]; omega]
    simp only [wpQD] at h
    by_cases hwt : Region.wanted o (yielded ops a.tmps) = true
    · simp only [hwt, if_true] at h
      obtain ⟨v, hv, hK⟩ := h
      exact wpDr_first h0 (Region.noSelect_spec hsel) (l.length + g) listed a w (Region.free_spec h0 hB.1.2) hr (.inl ⟨hwt, hv⟩) hw (wpDr_head hsel w hw l (k + 1) _ _ hrest (by omega) hB.2 hK)
    · simp only [hwt] at h
      exact wpDr_first h0 (Region.noSelect_spec hsel) (l.length + g) listed a w (Region.free_spec h0 hB.1.2) hr (.inr ⟨by simpa using hwt, rfl⟩) hw (wpDr_head hsel w hw l (k + 1) _ _ hrest (by omega) hB.2 h)
def driftB (md : Region.Mode) (ops : Array Oper) (n : Nat) : Bool := Region.noSelect ops && decide (n ≤ ops.size) && Region.lexHead md ops (ops.size - n) n 0 (Array.replicate ops.size false)
/-- the region -/
theorem wp_region_drift {id : Nat} {Q : Exit → Act → World → Prop} {a : Act} {w : World} {l : List Oper} (n : Nat) (hm : P.follows .mixedOrders = true) (hB : driftB .any l.toArray n = true)
    (h : wpQD P l.toArray w.drew (fun a' => wpListD P l.toArray w.drew (fun a'' w'' => Q .normal a'' w'') (l.drop n) a' w.drew) (l.take n) a) : (Code.region id l.toArray true).wp P Q a w := by
  simp only [driftB, Bool.and_eq_true, decide_eq_true_eq] at hB
  obtain ⟨⟨hsel, hn⟩, hlex⟩ := hB
  have hn' : n ≤ l.length := by simpa using hn
  have htl : (l.take n).length = n := by rw [List.length_take]; omega
  have hg : l.toArray.size - n = (l.drop n).length := by simp
  rw [hg] at hlex
  have mono : ∀ (m : List Oper) (a : Act), wpQD P l.toArray w.drew (fun a' => wpListD P l.toArray w.drew (fun a'' w'' => Q .normal a'' w'') (l.drop n) a' w.drew) m a →
      wpQD P l.toArray w.drew (fun a' => ∀ listed, Region.seqB .any l.toArray (l.drop n).length n listed = true → wpDr P .any l.toArray w.drew (fun a'' w'' => Q .normal a'' w'') (l.drop n).length listed a' w.drew) m a := by
    intro m
    induction m with
    | nil => intro a h listed hs; exact wpDr_seq (l.drop n) n listed a w.drew (fun j => by simp) hs h
    | cons o m ih =>
      intro a h
      simp only [wpQD] at h ⊢
      split
      · rename_i hw; simp only [hw, if_true] at h; obtain ⟨v, h1, h2⟩ := h; exact ⟨v, h1, ih _ h2⟩
      · rename_i hw; simp only [hw] at h; exact ih _ h
  have G := wpDr_head (md := .any) (g := (l.drop n).length) (n := n) hsel w.drew (Rk.refl _) (l.take n) 0 (Array.replicate l.toArray.size false) a
    (fun j hj => by rw [htl] at hj; simp [hj]) (by omega) (by rw [htl]; exact hlex) (mono _ _ h)
  refine wp_region_any hm ?_
  rw [htl, show n + (l.drop n).length = l.toArray.size from by simp; omega] at G
  exact wpAny_of_dr (fun _ _ h => h) _ _ _ _ G

/-! ### steps -/
theorem drift_plain {a : Act} {o : Oper} {K : Act → Prop} (v : Value) (hg : Region.wanted o (yielded ops a.tmps) = true) (hv : ∀ w, Rk w0 w → (execOp a.eval o).run P w = .ok (.value v) w) (h : K (a.put o.dst v)) :
    if Region.wanted o (yielded ops a.tmps) then ∃ v, (∀ w, Rk w0 w → o.quietAt P a (Rw w) w v) ∧ K (a.put o.dst v) else K (a.put o.dst undef) := by
  rw [if_pos hg]
  exact ⟨v, fun w hw => by unfold Oper.quietAt; rw [hv w hw]; exact ⟨rfl, rfl⟩, h⟩
theorem drift_call {a : Act} {o : Oper} {K : Act → Prop} (v : Value) (f : FuncId) (args : Array Value) (hg : Region.wanted o (yielded ops a.tmps) = true) (hv : ∀ w, (execOp a.eval o).run P w = .ok (.enter f args) w)
    (hc : ∀ w, Rk w0 w → Calls P f args w fun e w' => e = .returned v ∧ Rw w w') (h : K (a.put o.dst v)) :
    if Region.wanted o (yielded ops a.tmps) then ∃ v, (∀ w, Rk w0 w → o.quietAt P a (Rw w) w v) ∧ K (a.put o.dst v) else K (a.put o.dst undef) := by
  rw [if_pos hg]
  exact ⟨v, fun w hw => by unfold Oper.quietAt; rw [hv w]; exact ⟨rfl, hc w hw⟩, h⟩
theorem drift_load {a : Act} {o : Oper} {K : Act → Prop} {b ty n : Nat} {d : TypeDesc} {x : Operand} {cs : List Value} {t : TypeId} (hb : ∀ w, Rk w0 w → Blk w b t cs)
    (hu : P.underlying ty = some d) (hd : wide d = true) (hi : (P.info? ty).map (·.size) = some n) (hn : cs.length = n) (hg : Region.wanted o (yielded ops a.tmps) = true) (ho : o.op = .load ty x) (hx : a.eval x = .pointer (some ⟨b, 0, none⟩))
    (h : K (a.put o.dst (.agg cs.toArray))) : if Region.wanted o (yielded ops a.tmps) then ∃ v, (∀ w, Rk w0 w → o.quietAt P a (Rw w) w v) ∧ K (a.put o.dst v) else K (a.put o.dst undef) :=
  drift_plain (.agg cs.toArray) hg (fun w hw => by
    unfold execOp
    simp only [ho, hx, Instr.loadAt, Instr.sureAddr, Sem.run_bind, Sem.run_pure, Result.andThen_ok, run_loadVar_row w b t ty cs.toArray (0, 0) d (hb w hw) hu (by cases d <;> first | rfl | cases hd) (by rw [hi]; simp [hn])]) h
theorem driftT_nil {K : Act → World → Prop} {a : Act} {w : World} (h : ∀ w1, Rw w w1 → K a w1) : wpListD P ops w0 K [] a w := h
theorem driftT_call {K : Act → World → Prop} {o : Oper} {rest : List Oper} {a : Act} {w : World} {G : Value → World → Prop} (f : FuncId) (args : Array Value) (hw0 : Rk w0 w) (hg : Region.wanted o (yielded ops a.tmps) = true)
    (hv : ∀ w, (execOp a.eval o).run P w = .ok (.enter f args) w) (hc : ∀ w1, Rw w w1 → Calls P f args w1 fun e w' => ∃ v, e = .returned v ∧ G v w' ∧ Below w1.heap.size w1 w')
    (h : ∀ v w', Rw w w' → G v w' → wpListD P ops w0 K rest (a.put o.dst v) w') : wpListD P ops w0 K (o :: rest) a w := by
  intro w1 h1
  simp only [wpList]
  rw [if_pos hg]
  refine .inl ?_
  unfold Oper.wp
  rw [hv w1]
  simp only [Oper.upon]
  refine (hc w1 h1).mono ?_
  rintro e w' ⟨v, rfl, hG, hb⟩
  exact ⟨trivial, Rk.trans hw0 (Rw.trans h1 hb), h v w' (Rw.trans h1 hb) hG⟩
theorem driftT_make {K : Act → World → Prop} {o : Oper} {rest : List Oper} {a : Act} {w : World} {G : Value → World → Prop} (hw0 : Rk w0 w) (hg : Region.wanted o (yielded ops a.tmps) = true)
    (hv : ∀ w1, Rw w w1 → ∃ v w2, (execOp a.eval o).run P w1 = .ok (.value v) w2 ∧ Below w1.heap.size w1 w2 ∧ G v w2)
    (h : ∀ v w', Rw w w' → G v w' → wpListD P ops w0 K rest (a.put o.dst v) w') : wpListD P ops w0 K (o :: rest) a w := by
  intro w1 h1
  simp only [wpList]
  rw [if_pos hg]
  refine .inl ?_
  obtain ⟨v, w2, hr, hb, hG⟩ := hv w1 h1
  unfold Oper.wp
  rw [hr]
  simp only [Oper.upon]
  exact ⟨trivial, Rk.trans hw0 (Rw.trans h1 hb), h v w2 (Rw.trans h1 hb) hG⟩
theorem driftT_plain {K : Act → World → Prop} {o : Oper} {rest : List Oper} {a : Act} {w : World} (v : Value) (hw0 : Rk w0 w) (hg : Region.wanted o (yielded ops a.tmps) = true)
    (hv : ∀ w1, Rw w w1 → (execOp a.eval o).run P w1 = .ok (.value v) w1) (h : ∀ w', Rw w w' → wpListD P ops w0 K rest (a.put o.dst v) w') : wpListD P ops w0 K (o :: rest) a w :=
  driftT_make (G := fun u _ => u = v) hw0 hg (fun w1 h1 => ⟨v, w1, hv w1 h1, Below.refl _ _, rfl⟩) (fun _ w' hw hu => hu ▸ h w' hw)
theorem drift_loadP {ops : Array Oper} {w0 : World} {a : Act} {o : Oper} {K : Act → Prop} {b : Nat} {x : Operand} {l m : List Nat} (hb : ∀ w, Rk w0 w → PB w b l m)
    (hg : Region.wanted o (yielded ops a.tmps) = true) (ho : o.op = .load tP x) (hx : a.eval x = .pointer (some ⟨b, 0, none⟩)) (h : K (a.put o.dst (.agg (uvals (l ++ m)).toArray))) :
    if Region.wanted o (yielded ops a.tmps) then ∃ v, (∀ w, Rk w0 w → o.quietAt Tryz.prog a (Rw w) w v) ∧ K (a.put o.dst v) else K (a.put o.dst undef) :=
  drift_plain (.agg (uvals (l ++ m)).toArray) hg (fun w hw => by
    unfold execOp
    simp only [ho, hx, Instr.loadAt, Instr.sureAddr, Sem.run_bind, Sem.run_pure, Result.andThen_ok, run_loadVar_row w b tP tP (uvals (l ++ m)).toArray (0, 0) _ (hb w hw).1 Tryz.underlying83 rfl (by rw [pt_size]; simp [(hb w hw).len])]) h
/-- a store into a block of F -/
theorem driftT_store {K : Act → World → Prop} {t : TypeId} {n : Nat} {old l : List Nat} {o : Oper} {rest : List Oper} {a : Act} {w : World} {b : Nat} {x y : Operand} (hw0 : Rk w0 w) (hsz : (Tryz.prog.info? t).map (·.size) = some n) (hb : Blk w b t (uvals old)) (hold : old.length = n) (hl : l.length = n)
    (hF : (default : MutF).F b) (hg : o.guard = none) (hds : o.dst = none) (ho : o.op = .store t x y) (hx : a.eval x = .pointer (some ⟨b, 0, none⟩)) (hy : a.eval y = .agg (uvals l).toArray)
    (h : ∀ w1, Rw w w1 → Rk w0 (w1.setRow b (uvals l).toArray) → wpListD Tryz.prog ops w0 K rest a (w1.setRow b (uvals l).toArray)) : wpListD Tryz.prog ops w0 K (o :: rest) a w := by
  refine driftT_step (fun w1 h1 Q' hQ' => ?_)
  have hb1 : Blk w1 b t (uvals old) := hb.below h1 hb.lt
  have hW1 := Rk.trans hw0 h1
  refine store_blk (n := n) (t := t) (b := b) (old := uvals old) (cs := uvals l) hb1 hsz (by rw [uvals_len, hl]) (by rw [uvals_len, hold]) (uvals_one l) hg ho hx hy ?_
  have hW2 : Rk w0 (w1.setRow b (uvals l).toArray) := Keeps.row hW1 b _ (fun _ => hF)
  refine hQ' _ _ hW2 ?_
  rw [hds]
  exact h w1 h1 hW2
end Go.Proofs.YtkhdhiddhnmdkaaGreatDoor.DK

namespace Go.Proofs.YtkhdhiddhnmdkaaGreatDoor
open Go.RowKit

/-- the bytes that count -/
def kc (l : List UInt8) : List UInt8 := (l.set 0 (UInt8.ofNat ((l.getD 0 0).toNat / 8 * 8))).set 31 (UInt8.ofNat ((l.getD 31 0).toNat % 64 + 64))
theorem kc_len (l : List UInt8) : (kc l).length = l.length := by simp [kc]
/-- the number -/
def KN (l : List UInt8) : Nat := le8 (kc l)
theorem le8_cons (b : UInt8) (t : List UInt8) : le8 (b :: t) = b.toNat + 256 * le8 t := rfl
theorem split32 {l : List UInt8} (h : l.length = 32) : ∃ a m z, l = a :: (m ++ [z]) ∧ m.length = 30 := by
  match l, h with
  | a :: t, h =>
    have ht : t.length = 31 := by simpa using h
    refine ⟨a, t.take 30, t.getD 30 0, ?_, by rw [List.length_take]; omega⟩
    have e := List.take_append_drop 30 t
    have hd : t.drop 30 = [t.getD 30 0] := by
      rw [List.drop_eq_getElem_cons (by omega), List.drop_eq_nil_of_le (by omega), List.getD_eq_getElem?_getD, List.getElem?_eq_getElem (by omega)]
      rfl
    rw [hd] at e
    rw [e]
theorem kc_split (a z : UInt8) (m : List UInt8) (h : m.length = 30) : kc (a :: (m ++ [z])) = UInt8.ofNat (a.toNat / 8 * 8) :: (m ++ [UInt8.ofNat (z.toNat % 64 + 64)]) := by
  unfold kc
  have e : (a :: (m ++ [z])).getD 31 0 = z := by
    rw [List.getD_eq_getElem?_getD, List.getElem?_cons_succ, List.getElem?_append_right (by omega), h]
    rfl
  rw [e, List.set_cons_zero, List.set_cons_succ, List.set_append_right _ _ (by omega), h]
  rfl
theorem KN_split (a z : UInt8) (m : List UInt8) (h : m.length = 30) : KN (a :: (m ++ [z])) = a.toNat / 8 * 8 + 256 * (le8 m + 256 ^ 30 * (z.toNat % 64 + 64)) := by
  unfold KN
  rw [kc_split a z m h, le8_cons, le8_append, h]
  have ha := a.toNat_lt
  have hz := z.toNat_lt
  have e1 : (UInt8.ofNat (a.toNat / 8 * 8)).toNat = a.toNat / 8 * 8 := by
    rw [UInt8.toNat_ofNat']; omega
  have e2 : le8 [UInt8.ofNat (z.toNat % 64 + 64)] = z.toNat % 64 + 64 := by
    rw [le8_cons, UInt8.toNat_ofNat']
    show (z.toNat % 64 + 64) % 2 ^ 8 + 256 * 0 = _
    omega
  rw [e1, e2]
set_option maxRecDepth 100000 in
theorem KN_ok {l : List UInt8} (h : l.length = 32) : 8 ∣ KN l ∧ 0 < KN l ∧ KN l < 2 ^ 255 := by
  obtain ⟨a, m, z, rfl, hm⟩ := split32 h
  rw [KN_split a z m hm]
  have h1 := le8_lt m
  rw [hm] at h1
  have ha := a.toNat_lt
  have hz : z.toNat % 64 < 64 := Nat.mod_lt _ (by decide)
  generalize z.toNat % 64 = y at *
  generalize le8 m = x at *
  have hq : a.toNat / 8 < 32 := by omega
  generalize a.toNat / 8 = q at *
  obtain ⟨P, hP⟩ : ∃ P : Nat, P = 256 ^ 30 := ⟨_, rfl⟩
  have hP0 : 0 < P := hP ▸ (by decide)
  have e : (2 : Nat) ^ 255 = 256 * (P * 128) := hP ▸ (by decide)
  rw [← hP] at h1 ⊢
  rw [e]
  clear hP e
  have e2 : P * (y + 64) + P ≤ P * 128 := by
    rw [← Nat.mul_succ]
    exact Nat.mul_le_mul_left _ (by omega)
  have e3 : P ≤ P * (y + 64) := Nat.le_mul_of_pos_right _ (by omega)
  generalize P * (y + 64) = T at *
  generalize P * 128 = M at *
  refine ⟨⟨q + 32 * (x + T), by omega⟩, by omega, by omega⟩
end Go.Proofs.YtkhdhiddhnmdkaaGreatDoor
