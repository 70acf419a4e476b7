/-
A region that draws its order and in which ONE operation (number n) writes, while all others are quiet before it and behind it: one walk of the lexical order serves every order.
After the library's Derived/Deep/Quiet.lean, with two classes of worlds: 'D false' ahead of the writer, 'D true' behind it.
-/
import Derived.Deep.Quiet
import Derived.Test.YtcbkbjpdfanjpaaGreatDoorPk01
namespace Go.Proofs.YtcbkbjpdfanjpaaGreatDoor
open Go.RowKit
variable {P : Program} {md : Region.Mode} {ops : Array Oper} {D : Bool → World → Prop} {n : Nat}

def upon2 (P : Program) (E : World → Prop) (v : Value) : Result Next → Prop
  | .ok (.value u) w' => E w' ∧ u = v
  | .ok .skip w' => E w' ∧ v = undef
  | .ok (.enter f args) w' => Calls P f args w' (fun e w'' => e = .returned v ∧ E w'')
  | _ => False
def step2 (P : Program) (D : Bool → World → Prop) (n i : Nat) (o : Oper) (a : Act) (v : Value) : Prop :=
  ∀ b w, (i = n → b = false) → D b w → upon2 P (D (b || decide (i = n))) v ((execOp a.eval o).run P w)
def qOp2 (P : Program) (ops : Array Oper) (D : Bool → World → Prop) (n i : Nat) (K : Act → Prop) (a : Act) : Prop :=
  match ops[i]? with
  | none => False
  | some o => if Region.wanted o (yielded ops a.tmps) then ∃ v, step2 P D n i o a v ∧ K (a.put o.dst v) else (i = n → ∀ w, D false w → D true w) ∧ K (a.put o.dst undef)
theorem qOp2_mono {i : Nat} {a : Act} {K K' : Act → Prop} (h : ∀ a, K a → K' a) (hh : qOp2 P ops D n i K a) : qOp2 P ops D n i K' a := by
  unfold qOp2 at *
  split
  · simp_all
  · rename_i o ho
    simp only [ho] at hh
    split
    · rename_i hw; simp only [hw, if_true] at hh; obtain ⟨v, h1, h2⟩ := hh; exact ⟨v, h1, h _ h2⟩
    · rename_i hw; simp only [hw] at hh; exact ⟨hh.1, h _ hh.2⟩
theorem wpOp_of_qOp2 {i : Nat} {b : Bool} {a : Act} {K : Act → Prop} {K' : Act → World → Prop} {Q' : Exit → Act → World → Prop} {w : World} (hb : i = n → b = false) (hD : D b w)
    (h : ∀ a w', D (b || decide (i = n)) w' → K a → K' a w') (hh : qOp2 P ops D n i K a) : wpOp P ops Q' i K' a w := by
  unfold qOp2 at hh
  unfold wpOp
  split
  · rename_i ho; simp only [ho] at hh
  · rename_i o ho
    simp only [ho] at hh
    split
    · rename_i hw
      simp only [hw, if_true] at hh
      refine .inl ?_
      obtain ⟨v, h1, h2⟩ := hh
      have h3 := h1 b w hb hD
      unfold Oper.wp
      generalize (execOp a.eval o).run P w = r at *
      cases r with
      | ok m w' =>
        cases m <;> simp only [upon2] at h3 <;> simp only [Oper.upon]
        case value u =>
          obtain ⟨e1, e2⟩ := h3
          rw [e2]
          exact h _ _ e1 h2
        case skip =>
          obtain ⟨e1, e2⟩ := h3
          rw [← e2]
          exact h _ _ e1 h2
        case enter f args => exact h3.mono fun e w'' ⟨he, hw''⟩ => by subst he; exact h _ _ hw'' h2
      | halt x w' => simp only [upon2] at h3
    · rename_i hw
      simp only [hw] at hh
      refine h _ _ ?_ hh.2
      by_cases hi : i = n
      · have := hb hi
        subst this
        simpa [hi] using hh.1 hi w hD
      · simpa [hi] using hD
def wpAny2 (P : Program) (md : Region.Mode) (ops : Array Oper) (D : Bool → World → Prop) (n : Nat) (Q : Act → Prop) : Nat → Array Bool → Act → Prop
  | 0, listed, a => Region.ready md ops listed = [] ∧ listed.getD n true = true ∧ Q a
  | fuel + 1, listed, a =>
    Region.ready md ops listed ≠ [] ∧ ∀ i ∈ Region.ready md ops listed, qOp2 P ops D n i (wpAny2 P md ops D n Q fuel (listed.setIfInBounds i true)) a
theorem getD_set_true (l : Array Bool) (i n : Nat) : (l.setIfInBounds i true).getD n true = (l.getD n true || decide (i = n)) := by
  by_cases h : i = n
  · subst h
    rcases Nat.lt_or_ge i l.size with h' | h'
    · simp [h']
    · simp [h']
  · rw [getD_set_ne true h]; simp [h]
theorem wpAny_of_two {Q : Act → Prop} {Q' : Exit → Act → World → Prop} (hQ : ∀ a w, D true w → Q a → Q' .normal a w) : ∀ (fuel : Nat) (listed : Array Bool) (a : Act) (w : World), D (listed.getD n true) w →
    wpAny2 P md ops D n Q fuel listed a → wpAny P md ops Q' fuel listed a w
  | 0, _, _, _, hw, h => ⟨h.1, hQ _ _ (by rw [h.2.1] at hw; exact hw) h.2.2⟩
  | fuel + 1, listed, _, _, hw, h => ⟨fun h0 => absurd h0 h.1, fun i hi => wpOp_of_qOp2 (b := listed.getD n true) (fun e => by subst e; exact (mem_ready.1 hi).1) hw
      (fun a' w' hw' => wpAny_of_two hQ fuel _ a' w' (by rw [getD_set_true]; exact hw')) (h.2 i hi)⟩
def Yields2 (P : Program) (ops : Array Oper) (D : Bool → World → Prop) (n i : Nat) (o : Oper) (v : Value) (a : Act) : Prop :=
  (Region.wanted o (yielded ops a.tmps) = true ∧ step2 P D n i o a v) ∨ (Region.wanted o (yielded ops a.tmps) = false ∧ v = undef ∧ (i = n → ∀ w, D false w → D true w))
theorem Yields2.qOp {i : Nat} {o : Oper} {v : Value} {a : Act} (hi : ops[i]? = some o) (hy : Yields2 P ops D n i o v a) {K : Act → Prop} (h : K (a.put o.dst v)) : qOp2 P ops D n i K a := by
  unfold qOp2
  simp only [hi]
  rcases hy with ⟨hw, hv⟩ | ⟨hw, rfl, h2⟩
  · simp only [hw, if_true]; exact ⟨v, hv, h⟩
  · simp only [hw, Bool.false_eq_true, if_false]; exact ⟨h2, h⟩
theorem Yields2.of_same {i : Nat} {o : Oper} {v : Value} {a a' : Act} (hy : Yields2 P ops D n i o v a) (he : execOp a'.eval o = execOp a.eval o)
    (hw : Region.wanted o (yielded ops a'.tmps) = Region.wanted o (yielded ops a.tmps)) : Yields2 P ops D n i o v a' := by
  unfold Yields2 step2 at *
  rw [he, hw]
  exact hy
theorem yields2_of_qOp {i : Nat} {o : Oper} {a : Act} {K : Act → Prop} (hi : ops[i]? = some o) (h : qOp2 P ops D n i K a) : ∃ v, Yields2 P ops D n i o v a ∧ K (a.put o.dst v) := by
  unfold qOp2 at h
  simp only [hi] at h
  by_cases hw : Region.wanted o (yielded ops a.tmps) = true
  · simp only [hw, if_true] at h
    obtain ⟨v, h1, h2⟩ := h
    exact ⟨v, .inl ⟨hw, h1⟩, h2⟩
  · simp only [hw] at h
    exact ⟨undef, .inr ⟨by simpa using hw, rfl, h.1⟩, h.2⟩
theorem qOp2_put {i j : Nat} {oi oj : Oper} {v : Value} (hj : ops[j]? = some oj) (hap : oi.apart ops oj = true)
    (hsi : ∀ cs b, oi.op ≠ .select cs b) (hsj : ∀ cs b, oj.op ≠ .select cs b) {K : Act → Prop} {a : Act}
    (hy : Yields2 P ops D n i oi v a) (h : qOp2 P ops D n j K (a.put oi.dst v)) :
    qOp2 P ops D n j (fun a' => Yields2 P ops D n i oi v a' ∧ K (a'.put oi.dst v)) a := by
  obtain ⟨h1, h2, h3⟩ := Oper.apart_spec hap
  have keep : ∀ (a : Act), Yields2 P ops D n i oi v a → ∀ u, Yields2 P ops D n i oi v (a.put oj.dst u) := fun a hy u =>
    hy.of_same (execOp_put oi hsi a oj.dst u h3) (wanted_put oi a oj.dst u h3)
  unfold qOp2 at *
  simp only [hj] at *
  rw [wanted_put oj a oi.dst v h1] at h
  split
  · rename_i hw
    simp only [hw, if_true] at h
    obtain ⟨u, hu, hn⟩ := h
    refine ⟨u, ?_, keep a hy u, by rw [← Act.put_comm a v u h2]; exact hn⟩
    unfold step2 at *
    rwa [execOp_put oj hsj a oi.dst v h1] at hu
  · rename_i hw
    simp only [hw] at h
    exact ⟨h.1, keep a hy _, by rw [← Act.put_comm a v undef h2]; exact h.2⟩
theorem wpAny2_first {Q : Act → Prop} {i : Nat} {oi : Oper} {v : Value} (hi : ops[i]? = some oi) (hsel : ∀ (j : Nat) (o : Oper) cs b, ops[j]? = some o → o.op ≠ .select cs b) :
    ∀ (fuel : Nat) (listed : Array Bool) (a : Act),
      (∀ j oj, ops[j]? = some oj → j ≠ i → listed.getD j true = false → (∀ e ∈ oj.after, Region.binds md e = true → e.on ≠ i) → oi.apart ops oj = true) →
      i ∈ Region.ready md ops listed → Yields2 P ops D n i oi v a →
      wpAny2 P md ops D n Q fuel (listed.setIfInBounds i true) (a.put oi.dst v) → wpAny2 P md ops D n Q (fuel + 1) listed a := by
  intro fuel
  induction fuel with
  | zero =>
    intro listed a _ hr hy H
    refine ⟨fun h => (by rw [h] at hr; cases hr), fun j hj => ?_⟩
    by_cases hji : j = i
    · subst hji; exact hy.qOp hi H
    · have := ready_mono hj hji
      rw [H.1] at this
      cases this
  | succ fuel ih =>
    intro listed a hfree hr hy H
    refine ⟨fun h => (by rw [h] at hr; cases hr), fun j hj => ?_⟩
    by_cases hji : j = i
    · subst hji; exact hy.qOp hi H
    · have h1 := H.2 j (ready_mono hj hji)
      obtain ⟨hjun, oj, hoj, hall⟩ := mem_ready.1 hj
      have hnot : ∀ e ∈ oj.after, Region.binds md e = true → e.on ≠ i := fun e he hb heq => by
        have h1 := hall e he hb
        have h0 := (mem_ready.1 hr).1
        rw [heq] at h1
        rcases Nat.lt_or_ge i listed.size with h' | h'
        · simp [h'] at h0 h1; rw [h0] at h1; cases h1
        · simp [Array.getElem?_eq_none h'] at h1
      have h2 := qOp2_put hoj (hfree j oj hoj hji hjun hnot) (fun cs b => hsel i oi cs b hi) (fun cs b => hsel j oj cs b hoj) hy h1
      have hfree' : ∀ k ok, ops[k]? = some ok → k ≠ i → (listed.setIfInBounds j true).getD k true = false →
          (∀ e ∈ ok.after, Region.binds md e = true → e.on ≠ i) → oi.apart ops ok = true := fun k ok hk hki hun hno => by
        refine hfree k ok hk hki ?_ hno
        by_cases hjk : j = k
        · subst hjk; exact hjun
        · rw [getD_set_ne true hjk] at hun; exact hun
      refine qOp2_mono (fun a' h3 => ih (listed.setIfInBounds j true) a' hfree' (ready_mono hr (Ne.symm hji)) h3.1 ?_) h2
      rw [Array.setIfInBounds_comm _ _ hji]
      exact h3.2
/-- the lexical walk -/
def wpTwo (P : Program) (ops : Array Oper) (D : Bool → World → Prop) (n : Nat) (Q : Act → Prop) : Nat → List Oper → Act → Prop
  | _, [], a => Q a
  | k, o :: rest, a => if Region.wanted o (yielded ops a.tmps) then ∃ v, step2 P D n k o a v ∧ wpTwo P ops D n Q (k + 1) rest (a.put o.dst v) else (k = n → ∀ w, D false w → D true w) ∧ wpTwo P ops D n Q (k + 1) rest (a.put o.dst undef)
theorem wpAny2_lex {Q : Act → Prop} (hs : Region.noSelect ops = true) : ∀ (l : List Oper) (k : Nat) (listed : Array Bool) (a : Act), (∀ j, l[j]? = ops[k + j]?) → n < k + l.length → (∀ j, j < k → listed.getD j true = true) →
    Region.lexFrom md ops l.length k listed = true → wpTwo P ops D n Q k l a → wpAny2 P md ops D n Q l.length listed a
  | [], k, _, _, _, hn, hl, hB, h => ⟨by simpa [Region.lexFrom] using hB, hl n (by simpa using hn), h⟩
  | o :: l, k, listed, a, hl, hn, hd, hB, h => by
    have h0 : ops[k]? = some o := by simpa using (hl 0).symm
    simp only [List.length_cons, Region.lexFrom, Bool.and_eq_true] at hB
    obtain ⟨⟨hr, hf⟩, hB'⟩ := hB
    have hst : qOp2 P ops D n k (wpTwo P ops D n Q (k + 1) l) a := by unfold qOp2; simp only [h0]; exact h
    obtain ⟨v, hy, hK⟩ := yields2_of_qOp h0 hst
    refine wpAny2_first h0 (Region.noSelect_spec hs) l.length listed a (Region.free_spec h0 hf) (by simpa using hr) hy
      (wpAny2_lex hs l (k + 1) _ _ (fun j => by have := hl (j + 1); simpa [Nat.add_assoc, Nat.add_comm 1 j] using this) (by simp at hn; omega) (fun j hj => ?_) hB' hK)
    rw [getD_set_true]
    by_cases hjk : k = j
    · simp [hjk]
    · rw [hd j (by omega)]; rfl
/-- a region of which operation n writes -/
theorem region_two {id : Nat} {Q : Exit → Act → World → Prop} {a : Act} {w : World} {l : List Oper} (n : Nat) (D : Bool → World → Prop) (hm : P.follows .mixedOrders = true) (hB : Region.lexB .any l.toArray = true) (hn : n < l.length) (hD : D false w.drew)
    (h : wpTwo P l.toArray D n (fun a' => ∀ w', D true w' → Q .normal a' w') 0 l a) : (Code.region id l.toArray true).wp P Q a w := by
  simp only [Region.lexB, Bool.and_eq_true] at hB
  refine wp_region_any hm (wpAny_of_two (D := D) (n := n) (Q := fun a' => ∀ w', D true w' → Q .normal a' w') (fun _ w' hw' h => h w' hw') _ _ _ _ ?_ ?_)
  · have e : (Array.replicate l.toArray.size false).getD n true = false := by simp [hn]
    rw [e]; exact hD
  · have := wpAny2_lex (D := D) (n := n) (md := .any) hB.1 l 0 (Array.replicate l.toArray.size false) a (by simp) (by simpa using hn) (fun j hj => absurd hj (Nat.not_lt_zero j)) (by simpa using hB.2) h
    simpa using this

/-! steps: what follows kept apart -/
theorem wpTwo_nil {k : Nat} {Q : Act → Prop} {a : Act} (h : Q a) : wpTwo P ops D n Q k [] a := h
theorem two_quiet {k : Nat} {Q : Act → Prop} {a : Act} {o : Oper} {rest : List Oper} (v : Value) (hne : k ≠ n) (hg : Region.wanted o (yielded ops a.tmps) = true) (hv : ∀ b w, D b w → (execOp a.eval o).run P w = .ok (.value v) w)
    (h : wpTwo P ops D n Q (k + 1) rest (a.put o.dst v)) : wpTwo P ops D n Q k (o :: rest) a := by
  unfold wpTwo
  rw [if_pos hg]
  exact ⟨v, fun b w _ hw => by rw [hv b w hw]; exact ⟨by simpa [hne] using hw, rfl⟩, h⟩
theorem two_call {k : Nat} {Q : Act → Prop} {a : Act} {o : Oper} {rest : List Oper} (v : Value) (f : FuncId) (args : Array Value) (hne : k ≠ n) (hg : Region.wanted o (yielded ops a.tmps) = true) (hv : ∀ w, (execOp a.eval o).run P w = .ok (.enter f args) w)
    (hc : ∀ b w, D b w → Calls P f args w fun e w' => e = .returned v ∧ D b w') (h : wpTwo P ops D n Q (k + 1) rest (a.put o.dst v)) : wpTwo P ops D n Q k (o :: rest) a := by
  unfold wpTwo
  rw [if_pos hg]
  exact ⟨v, fun b w _ hw => by rw [hv w]; simpa [upon2, hne] using hc b w hw, h⟩
theorem two_write {Q : Act → Prop} {a : Act} {o : Oper} {rest : List Oper} (v : Value) (f : FuncId) (args : Array Value) (hg : Region.wanted o (yielded ops a.tmps) = true) (hv : ∀ w, (execOp a.eval o).run P w = .ok (.enter f args) w)
    (hc : ∀ w, D false w → Calls P f args w fun e w' => e = .returned v ∧ D true w') (h : wpTwo P ops D n Q (n + 1) rest (a.put o.dst v)) : wpTwo P ops D n Q n (o :: rest) a := by
  unfold wpTwo
  rw [if_pos hg]
  exact ⟨v, fun b w hb hw => by
    obtain rfl := hb rfl
    rw [hv w]; simpa [upon2] using hc w hw, h⟩
theorem two_skip {k : Nat} {Q : Act → Prop} {a : Act} {o : Oper} {rest : List Oper} (hne : k ≠ n) (hg : Region.wanted o (yielded ops a.tmps) = false)
    (h : wpTwo P ops D n Q (k + 1) rest (a.put o.dst undef)) : wpTwo P ops D n Q k (o :: rest) a := by
  unfold wpTwo
  rw [if_neg (by simp [hg])]
  exact ⟨fun e => absurd e hne, h⟩
/-! .. and with the frame written out behind each step -/
theorem two_step {k : Nat} {Q : Act → Prop} {a : Act} {o : Oper} {rest : List Oper}
    (h : ∀ K : Act → Prop, (∀ a, wpTwo P ops D n Q (k + 1) rest a → K a) → if Region.wanted o (yielded ops a.tmps) then ∃ v, step2 P D n k o a v ∧ K (a.put o.dst v) else (k = n → ∀ w, D false w → D true w) ∧ K (a.put o.dst undef)) : wpTwo P ops D n Q k (o :: rest) a :=
  h _ (fun _ h => h)
theorem two_quietK {k : Nat} {a : Act} {o : Oper} {K : Act → Prop} (v : Value) (hne : k ≠ n) (hg : Region.wanted o (yielded ops a.tmps) = true) (hv : ∀ b w, D b w → (execOp a.eval o).run P w = .ok (.value v) w) (h : K (a.put o.dst v)) :
    if Region.wanted o (yielded ops a.tmps) then ∃ v, step2 P D n k o a v ∧ K (a.put o.dst v) else (k = n → ∀ w, D false w → D true w) ∧ K (a.put o.dst undef) := by
  rw [if_pos hg]
  exact ⟨v, fun b w _ hw => by rw [hv b w hw]; exact ⟨by simpa [hne] using hw, rfl⟩, h⟩
theorem two_callK {k : Nat} {a : Act} {o : Oper} {K : Act → Prop} (v : Value) (f : FuncId) (args : Array Value) (hne : k ≠ n) (hg : Region.wanted o (yielded ops a.tmps) = true) (hv : ∀ w, (execOp a.eval o).run P w = .ok (.enter f args) w)
    (hc : ∀ b w, D b w → Calls P f args w fun e w' => e = .returned v ∧ D b w') (h : K (a.put o.dst v)) :
    if Region.wanted o (yielded ops a.tmps) then ∃ v, step2 P D n k o a v ∧ K (a.put o.dst v) else (k = n → ∀ w, D false w → D true w) ∧ K (a.put o.dst undef) := by
  rw [if_pos hg]
  exact ⟨v, fun b w _ hw => by rw [hv w]; simpa [upon2, hne] using hc b w hw, h⟩
theorem two_writeK {a : Act} {o : Oper} {K : Act → Prop} (v : Value) (f : FuncId) (args : Array Value) (hg : Region.wanted o (yielded ops a.tmps) = true) (hv : ∀ w, (execOp a.eval o).run P w = .ok (.enter f args) w)
    (hc : ∀ w, D false w → Calls P f args w fun e w' => e = .returned v ∧ D true w') (h : K (a.put o.dst v)) :
    if Region.wanted o (yielded ops a.tmps) then ∃ v, step2 P D n n o a v ∧ K (a.put o.dst v) else (n = n → ∀ w, D false w → D true w) ∧ K (a.put o.dst undef) := by
  rw [if_pos hg]
  exact ⟨v, fun b w hb hw => by
    obtain rfl := hb rfl
    rw [hv w]; simpa [upon2] using hc w hw, h⟩
/-- ahead of the writer the world is one, behind it it is one of a class -/
def D2 (w0 : World) (E : World → Prop) (d : Bool) (w' : World) : Prop := if d then E w' else w' = w0
theorem D2.any {w0 : World} {E : World → Prop} {p : World → Prop} (h0 : p w0) (h1 : ∀ w', E w' → p w') : ∀ d w', D2 w0 E d w' → p w' := fun d w' h => by
  cases d
  · have e : w' = w0 := h
    subst e; exact h0
  · exact h1 w' h
end Go.Proofs.YtcbkbjpdfanjpaaGreatDoor
