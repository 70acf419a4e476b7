/-
A region that draws its order and in which several operations write, one behind the other: one walk of the lexical order serves every order. The classes of worlds are told by which operations have come up.
After the library's Derived/Deep/Quiet.lean and Two.lean.
-/
import Derived.Test.YtaenfkekdhnakaaTwo
namespace Go.Proofs.Ytaenfkekdhnakaa
open Go.RowKit
variable {P : Program} {md : Region.Mode} {ops : Array Oper} {D : (Nat → Bool) → World → Prop}

/-- operation j waits for operation i -/
def waits (md : Region.Mode) (ops : Array Oper) (j i : Nat) : Bool := ((ops[j]?).map fun o => o.after.any fun e => Region.binds md e && e.on == i).getD false
def more (f : Nat → Bool) (i : Nat) : Nat → Bool := fun k => f k || decide (k = i)
/-- operation i may come up when those of f have -/
def may (md : Region.Mode) (ops : Array Oper) (i : Nat) (f : Nat → Bool) : Prop := f i = false ∧ (∀ o, ops[i]? = some o → ∀ e ∈ o.after, Region.binds md e = true → f e.on = true) ∧ (∀ j, waits md ops j i = true → f j = false)
def stepM (P : Program) (md : Region.Mode) (ops : Array Oper) (D : (Nat → Bool) → World → Prop) (i : Nat) (o : Oper) (a : Act) (v : Value) : Prop :=
  ∀ f w, may md ops i f → D f w → upon2 P (D (more f i)) v ((execOp a.eval o).run P w)
def skipM (md : Region.Mode) (ops : Array Oper) (D : (Nat → Bool) → World → Prop) (i : Nat) : Prop := ∀ f w, may md ops i f → D f w → D (more f i) w
def qOpM (P : Program) (md : Region.Mode) (ops : Array Oper) (D : (Nat → Bool) → World → Prop) (i : Nat) (K : Act → Prop) (a : Act) : Prop :=
  match ops[i]? with
  | none => False
  | some o => if Region.wanted o (yielded ops a.tmps) then ∃ v, stepM P md ops D i o a v ∧ K (a.put o.dst v) else skipM md ops D i ∧ K (a.put o.dst undef)
theorem qOpM_mono {i : Nat} {a : Act} {K K' : Act → Prop} (h : ∀ a, K a → K' a) (hh : qOpM P md ops D i K a) : qOpM P md ops D i K' a := by
  unfold qOpM at *
  split
  · simp_all
  · rename_i o ho
    simp only [ho] at hh
    split
    · rename_i hw; simp only [hw, if_true] at hh; obtain ⟨v, h1, h2⟩ := hh; exact ⟨v, h1, h _ h2⟩
    · rename_i hw; simp only [hw] at hh; exact ⟨hh.1, h _ hh.2⟩
theorem wpOp_of_qOpM {i : Nat} {f : Nat → Bool} {a : Act} {K : Act → Prop} {K' : Act → World → Prop} {Q' : Exit → Act → World → Prop} {w : World} (hb : may md ops i f) (hD : D f w)
    (h : ∀ a w', D (more f i) w' → K a → K' a w') (hh : qOpM P md ops D i K a) : wpOp P ops Q' i K' a w := by
  unfold qOpM at hh
  unfold wpOp
  split
  · rename_i ho; simp only [ho] at hh
  · rename_i o ho
    simp only [ho] at hh
    split
    · rename_i hw
      simp only [hw, if_true] at hh
      refine .inl ?_
      obtain ⟨v, h1, h2⟩ := hh
      have h3 := h1 f w hb hD
      unfold Oper.wp
      generalize (execOp a.eval o).run P w = r at *
      cases r with
      | ok m w' =>
        cases m <;> simp only [upon2] at h3 <;> simp only [Oper.upon]
        case value u =>
          obtain ⟨e1, e2⟩ := h3
          rw [e2]
          exact h _ _ e1 h2
        case skip =>
          obtain ⟨e1, e2⟩ := h3
          rw [← e2]
          exact h _ _ e1 h2
        case enter f args => exact h3.mono fun e w'' ⟨he, hw''⟩ => by subst he; exact h _ _ hw'' h2
      | halt x w' => simp only [upon2] at h3
    · rename_i hw
      simp only [hw] at hh
      exact h _ _ (hh.1 f w hb hD) hh.2
def wpAnyM (P : Program) (md : Region.Mode) (ops : Array Oper) (D : (Nat → Bool) → World → Prop) (Q : Act → Prop) : Nat → Array Bool → Act → Prop
  | 0, listed, a => Region.ready md ops listed = [] ∧ (∀ k, listed.getD k true = true) ∧ Q a
  | fuel + 1, listed, a =>
    Region.ready md ops listed ≠ [] ∧ ∀ i ∈ Region.ready md ops listed, qOpM P md ops D i (wpAnyM P md ops D Q fuel (listed.setIfInBounds i true)) a
def closed (md : Region.Mode) (ops : Array Oper) (listed : Array Bool) : Prop := ∀ j oj, ops[j]? = some oj → listed.getD j true = true → ∀ e ∈ oj.after, Region.binds md e = true → listed.getD e.on true = true
theorem both_true (listed : Array Bool) (i : Nat) (h : listed.getD i false = true) : listed.getD i true = true := by
  rcases Nat.lt_or_ge i listed.size with h' | h'
  · simpa [h'] using h
  · simp [Array.getElem?_eq_none h'] at h
theorem ready_may {listed : Array Bool} (hc : closed md ops listed) {i : Nat} (hi : i ∈ Region.ready md ops listed) : may md ops i (fun k => listed.getD k true) := by
  obtain ⟨h1, oi, ho, h2⟩ := mem_ready.1 hi
  refine ⟨h1, fun o ho' e he hb => ?_, fun j hj => ?_⟩
  · rw [ho] at ho'
    obtain rfl := Option.some.inj ho'
    exact both_true _ _ (h2 e he hb)
  · unfold waits at hj
    cases hoj : ops[j]? with
    | none => rw [hoj] at hj; simp at hj
    | some oj =>
      rw [hoj] at hj
      simp only [Option.map_some, Option.getD_some, Array.any_eq_true'] at hj
      obtain ⟨e, he, hbe⟩ := hj
      simp only [Bool.and_eq_true, beq_iff_eq] at hbe
      cases hl : listed.getD j true with
      | false => exact hl
      | true =>
        have := hc j oj hoj hl e he hbe.1
        rw [hbe.2] at this
        have h1' : listed.getD i true = false := h1
        rw [h1'] at this; cases this
theorem closed_set {listed : Array Bool} (hc : closed md ops listed) {i : Nat} (hi : i ∈ Region.ready md ops listed) : closed md ops (listed.setIfInBounds i true) := by
  obtain ⟨h1, oi, ho, h2⟩ := mem_ready.1 hi
  intro j oj hoj hl e he hb
  rw [getD_set_true] at hl ⊢
  by_cases hij : i = j
  · subst hij
    rw [ho] at hoj
    obtain rfl := Option.some.inj hoj
    rw [both_true _ _ (h2 e he hb)]; rfl
  · have hl' : listed.getD j true = true := by simpa [hij] using hl
    rw [hc j oj hoj hl' e he hb]; rfl
theorem wpAny_of_M {Q : Act → Prop} {Q' : Exit → Act → World → Prop} (hQ : ∀ a w, D (fun _ => true) w → Q a → Q' .normal a w) : ∀ (fuel : Nat) (listed : Array Bool) (a : Act) (w : World), closed md ops listed → D (fun k => listed.getD k true) w →
    wpAnyM P md ops D Q fuel listed a → wpAny P md ops Q' fuel listed a w
  | 0, listed, _, _, _, hw, h => ⟨h.1, hQ _ _ (by have e : (fun k => listed.getD k true) = fun _ => true := funext h.2.1
                                                  rw [e] at hw; exact hw) h.2.2⟩
  | fuel + 1, listed, _, _, hc, hw, h => ⟨fun h0 => absurd h0 h.1, fun i hi => wpOp_of_qOpM (f := fun k => listed.getD k true) (ready_may hc hi) hw
      (fun a' w' hw' => wpAny_of_M hQ fuel _ a' w' (closed_set hc hi) (by
        have e : (fun k => (listed.setIfInBounds i true).getD k true) = more (fun k => listed.getD k true) i := funext fun k => by rw [getD_set_true]; unfold more; simp only [eq_comm]
        rw [e]; exact hw')) (h.2 i hi)⟩
def YieldsM (P : Program) (md : Region.Mode) (ops : Array Oper) (D : (Nat → Bool) → World → Prop) (i : Nat) (o : Oper) (v : Value) (a : Act) : Prop :=
  (Region.wanted o (yielded ops a.tmps) = true ∧ stepM P md ops D i o a v) ∨ (Region.wanted o (yielded ops a.tmps) = false ∧ v = undef ∧ skipM md ops D i)
theorem YieldsM.qOp {i : Nat} {o : Oper} {v : Value} {a : Act} (hi : ops[i]? = some o) (hy : YieldsM P md ops D i o v a) {K : Act → Prop} (h : K (a.put o.dst v)) : qOpM P md ops D i K a := by
  unfold qOpM
  simp only [hi]
  rcases hy with ⟨hw, hv⟩ | ⟨hw, rfl, h2⟩
  · simp only [hw, if_true]; exact ⟨v, hv, h⟩
  · simp only [hw, Bool.false_eq_true, if_false]; exact ⟨h2, h⟩
theorem YieldsM.of_same {i : Nat} {o : Oper} {v : Value} {a a' : Act} (hy : YieldsM P md ops D i o v a) (he : execOp a'.eval o = execOp a.eval o)
    (hw : Region.wanted o (yielded ops a'.tmps) = Region.wanted o (yielded ops a.tmps)) : YieldsM P md ops D i o v a' := by
  unfold YieldsM stepM at *
  rw [he, hw]
  exact hy
theorem yieldsM_of_qOp {i : Nat} {o : Oper} {a : Act} {K : Act → Prop} (hi : ops[i]? = some o) (h : qOpM P md ops D i K a) : ∃ v, YieldsM P md ops D i o v a ∧ K (a.put o.dst v) := by
  unfold qOpM at h
  simp only [hi] at h
  by_cases hw : Region.wanted o (yielded ops a.tmps) = true
  · simp only [hw, if_true] at h
    obtain ⟨v, h1, h2⟩ := h
    exact ⟨v, .inl ⟨hw, h1⟩, h2⟩
  · simp only [hw] at h
    exact ⟨undef, .inr ⟨by simpa using hw, rfl, h.1⟩, h.2⟩
theorem qOpM_put {i j : Nat} {oi oj : Oper} {v : Value} (hj : ops[j]? = some oj) (hap : oi.apart ops oj = true)
    (hsi : ∀ cs b, oi.op ≠ .select cs b) (hsj : ∀ cs b, oj.op ≠ .select cs b) {K : Act → Prop} {a : Act}
    (hy : YieldsM P md ops D i oi v a) (h : qOpM P md ops D j K (a.put oi.dst v)) :
    qOpM P md ops D j (fun a' => YieldsM P md ops D i oi v a' ∧ K (a'.put oi.dst v)) a := by
  obtain ⟨h1, h2, h3⟩ := Oper.apart_spec hap
  have keep : ∀ (a : Act), YieldsM P md ops D i oi v a → ∀ u, YieldsM P md ops D i oi v (a.put oj.dst u) := fun a hy u =>
    hy.of_same (execOp_put oi hsi a oj.dst u h3) (wanted_put oi a oj.dst u h3)
  unfold qOpM at *
  simp only [hj] at *
  rw [wanted_put oj a oi.dst v h1] at h
  split
  · rename_i hw
    simp only [hw, if_true] at h
    obtain ⟨u, hu, hn⟩ := h
    refine ⟨u, ?_, keep a hy u, by rw [← Act.put_comm a v u h2]; exact hn⟩
    unfold stepM at *
    rwa [execOp_put oj hsj a oi.dst v h1] at hu
  · rename_i hw
    simp only [hw] at h
    exact ⟨h.1, keep a hy _, by rw [← Act.put_comm a v undef h2]; exact h.2⟩
theorem wpAnyM_first {Q : Act → Prop} {i : Nat} {oi : Oper} {v : Value} (hi : ops[i]? = some oi) (hsel : ∀ (j : Nat) (o : Oper) cs b, ops[j]? = some o → o.op ≠ .select cs b) :
    ∀ (fuel : Nat) (listed : Array Bool) (a : Act),
      (∀ j oj, ops[j]? = some oj → j ≠ i → listed.getD j true = false → (∀ e ∈ oj.after, Region.binds md e = true → e.on ≠ i) → oi.apart ops oj = true) →
      i ∈ Region.ready md ops listed → YieldsM P md ops D i oi v a →
      wpAnyM P md ops D Q fuel (listed.setIfInBounds i true) (a.put oi.dst v) → wpAnyM P md ops D Q (fuel + 1) listed a := by
  intro fuel
  induction fuel with
  | zero =>
    intro listed a _ hr hy H
    refine ⟨fun h => (by rw [h] at hr; cases hr), fun j hj => ?_⟩
    by_cases hji : j = i
    · subst hji; exact hy.qOp hi H
    · have := ready_mono hj hji
      rw [H.1] at this
      cases this
  | succ fuel ih =>
    intro listed a hfree hr hy H
    refine ⟨fun h => (by rw [h] at hr; cases hr), fun j hj => ?_⟩
    by_cases hji : j = i
    · subst hji; exact hy.qOp hi H
    · have h1 := H.2 j (ready_mono hj hji)
      obtain ⟨hjun, oj, hoj, hall⟩ := mem_ready.1 hj
      have hnot : ∀ e ∈ oj.after, Region.binds md e = true → e.on ≠ i := fun e he hb heq => by
        have h1 := hall e he hb
        have h0 := (mem_ready.1 hr).1
        rw [heq] at h1
        rcases Nat.lt_or_ge i listed.size with h' | h'
        · simp [h'] at h0 h1; rw [h0] at h1; cases h1
        · simp [Array.getElem?_eq_none h'] at h1
      have h2 := qOpM_put hoj (hfree j oj hoj hji hjun hnot) (fun cs b => hsel i oi cs b hi) (fun cs b => hsel j oj cs b hoj) hy h1
      have hfree' : ∀ k ok, ops[k]? = some ok → k ≠ i → (listed.setIfInBounds j true).getD k true = false →
          (∀ e ∈ ok.after, Region.binds md e = true → e.on ≠ i) → oi.apart ops ok = true := fun k ok hk hki hun hno => by
        refine hfree k ok hk hki ?_ hno
        by_cases hjk : j = k
        · subst hjk; exact hjun
        · rw [getD_set_ne true hjk] at hun; exact hun
      refine qOpM_mono (fun a' h3 => ih (listed.setIfInBounds j true) a' hfree' (ready_mono hr (Ne.symm hji)) h3.1 ?_) h2
      rw [Array.setIfInBounds_comm _ _ hji]
      exact h3.2
/-- the lexical walk -/
def wpMany (P : Program) (md : Region.Mode) (ops : Array Oper) (D : (Nat → Bool) → World → Prop) (Q : Act → Prop) : Nat → List Oper → Act → Prop
  | _, [], a => Q a
  | k, o :: rest, a => if Region.wanted o (yielded ops a.tmps) then ∃ v, stepM P md ops D k o a v ∧ wpMany P md ops D Q (k + 1) rest (a.put o.dst v) else skipM md ops D k ∧ wpMany P md ops D Q (k + 1) rest (a.put o.dst undef)
theorem wpAnyM_lex {Q : Act → Prop} (hs : Region.noSelect ops = true) : ∀ (l : List Oper) (k : Nat) (listed : Array Bool) (a : Act), (∀ j, l[j]? = ops[k + j]?) → listed.size ≤ k + l.length → (∀ j, j < k → listed.getD j true = true) →
    Region.lexFrom md ops l.length k listed = true → wpMany P md ops D Q k l a → wpAnyM P md ops D Q l.length listed a
  | [], k, listed, _, _, hn, hl, hB, h => ⟨by simpa [Region.lexFrom] using hB, fun j => by
      rcases Nat.lt_or_ge j k with h' | h'
      · exact hl j h'
      · have : listed.size ≤ j := by simp at hn; omega
        simp [Array.getElem?_eq_none this], h⟩
  | o :: l, k, listed, a, hl, hn, hd, hB, h => by
    have h0 : ops[k]? = some o := by simpa using (hl 0).symm
    simp only [List.length_cons, Region.lexFrom, Bool.and_eq_true] at hB
    obtain ⟨⟨hr, hf⟩, hB'⟩ := hB
    have hst : qOpM P md ops D k (wpMany P md ops D Q (k + 1) l) a := by unfold qOpM; simp only [h0]; exact h
    obtain ⟨v, hy, hK⟩ := yieldsM_of_qOp h0 hst
    refine wpAnyM_first h0 (Region.noSelect_spec hs) l.length listed a (Region.free_spec h0 hf) (by simpa using hr) hy
      (wpAnyM_lex hs l (k + 1) _ _ (fun j => by have := hl (j + 1); simpa [Nat.add_assoc, Nat.add_comm 1 j] using this) (by simp at hn ⊢; omega) (fun j hj => ?_) hB' hK)
    rw [getD_set_true]
    by_cases hjk : k = j
    · simp [hjk]
    · rw [hd j (by omega)]; rfl
/-- a region of which several operations write -/
theorem region_many {id : Nat} {Q : Exit → Act → World → Prop} {a : Act} {w : World} {l : List Oper} (D : (Nat → Bool) → World → Prop) (hm : P.follows .mixedOrders = true) (hB : Region.lexB .any l.toArray = true)
    (hne : ∀ k, k < l.length ∨ l.length ≤ k) (hD : D (fun k => decide (l.length ≤ k)) w.drew)
    (h : wpMany P .any l.toArray D (fun a' => ∀ w', D (fun _ => true) w' → Q .normal a' w') 0 l a) : (Code.region id l.toArray true).wp P Q a w := by
  simp only [Region.lexB, Bool.and_eq_true] at hB
  have e0 : (fun k => (Array.replicate l.toArray.size false).getD k true) = fun k => decide (l.length ≤ k) := funext fun k => by
    rcases hne k with h' | h'
    · have : ¬ l.length ≤ k := by omega
      simp [h', this]
    · have : ¬ k < l.length := by omega
      simp [h', this]
  refine wp_region_any hm (wpAny_of_M (D := D) (Q := fun a' => ∀ w', D (fun _ => true) w' → Q .normal a' w') (fun _ w' hw' h => h w' hw') _ _ _ _ ?_ ?_ ?_)
  · intro j oj hoj hl
    have := congrFun e0 j
    rw [show (Array.replicate l.toArray.size false).getD j true = decide (l.length ≤ j) from this] at hl
    have hlj : l.length ≤ j := by simpa using hl
    have : l.toArray[j]? = none := Array.getElem?_eq_none (by simpa using hlj)
    rw [this] at hoj; cases hoj
  · rw [e0]; exact hD
  · have := wpAnyM_lex (D := D) (md := .any) hB.1 l 0 (Array.replicate l.toArray.size false) a (by simp) (by simp) (fun j hj => absurd hj (Nat.not_lt_zero j)) (by simpa using hB.2) h
    simpa using this

/-! steps, with what follows kept apart -/
theorem wpMany_nil {k : Nat} {Q : Act → Prop} {a : Act} (h : Q a) : wpMany P md ops D Q k [] a := h
theorem many_step {k : Nat} {Q : Act → Prop} {a : Act} {o : Oper} {rest : List Oper}
    (h : ∀ K : Act → Prop, (∀ a, wpMany P md ops D Q (k + 1) rest a → K a) → if Region.wanted o (yielded ops a.tmps) then ∃ v, stepM P md ops D k o a v ∧ K (a.put o.dst v) else skipM md ops D k ∧ K (a.put o.dst undef)) : wpMany P md ops D Q k (o :: rest) a :=
  h _ (fun _ h => h)
theorem many_quietK {k : Nat} {a : Act} {o : Oper} {K : Act → Prop} (v : Value) (hD : ∀ f w, D f w → D (more f k) w) (hg : Region.wanted o (yielded ops a.tmps) = true) (hv : ∀ f w, may md ops k f → D f w → (execOp a.eval o).run P w = .ok (.value v) w) (h : K (a.put o.dst v)) :
    if Region.wanted o (yielded ops a.tmps) then ∃ v, stepM P md ops D k o a v ∧ K (a.put o.dst v) else skipM md ops D k ∧ K (a.put o.dst undef) := by
  rw [if_pos hg]
  exact ⟨v, fun f w hm hw => by rw [hv f w hm hw]; exact ⟨hD f w hw, rfl⟩, h⟩
theorem many_writeK {k : Nat} {a : Act} {o : Oper} {K : Act → Prop} (v : Value) (hg : Region.wanted o (yielded ops a.tmps) = true) (hv : ∀ f w, may md ops k f → D f w → upon2 P (D (more f k)) v ((execOp a.eval o).run P w)) (h : K (a.put o.dst v)) :
    if Region.wanted o (yielded ops a.tmps) then ∃ v, stepM P md ops D k o a v ∧ K (a.put o.dst v) else skipM md ops D k ∧ K (a.put o.dst undef) := by
  rw [if_pos hg]
  exact ⟨v, fun f w hm hw => hv f w hm hw, h⟩
end Go.Proofs.Ytaenfkekdhnakaa
