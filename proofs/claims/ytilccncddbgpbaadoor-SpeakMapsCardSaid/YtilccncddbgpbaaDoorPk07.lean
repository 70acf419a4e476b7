/-
A region that draws its order, walked by a plan that may fork: as Plan, but where two operations may come and neither floats, both ways are walked.
-/
import Derived.Test.YtilccncddbgpbaaDoorPk06
namespace Go.Proofs.YtilccncddbgpbaaDoor.Pl
open Go.RowKit
variable {P : Program} {md : Region.Mode} {ops : Array Oper} {w0 : World} {F : Nat → Prop}

inductive Tree where
  | done
  | head (i : Nat) (t : Tree)
  | sole (i : Nat) (t : Tree)
  | fork (i : Nat) (t : Tree) (j : Nat) (u : Tree)
def treeB (md : Region.Mode) (ops : Array Oper) : Tree → Nat → Array Bool → Bool
  | .done, f, listed => decide (f = 0) && (Region.ready md ops listed).isEmpty
  | .head i t, f, listed => decide (0 < f) && decide (i ∈ Region.ready md ops listed) && Region.free md ops listed i && treeB md ops t (f - 1) (listed.setIfInBounds i true)
  | .sole i t, f, listed => decide (0 < f) && decide (Region.ready md ops listed = [i]) && treeB md ops t (f - 1) (listed.setIfInBounds i true)
  | .fork i t j u, f, listed => decide (0 < f) && decide (Region.ready md ops listed = [i, j]) && treeB md ops t (f - 1) (listed.setIfInBounds i true) && treeB md ops u (f - 1) (listed.setIfInBounds j true)
def wpTree (P : Program) (ops : Array Oper) (F : Nat → Prop) (w0 : World) (K : Act → World → Prop) : Tree → Act → World → Prop
  | .done, a, w => ∀ w1, Rw w w1 → K a w1
  | .head i t, a, w => ∃ o, ops[i]? = some o ∧ if Region.wanted o (yielded ops a.tmps) then ∃ v, (∀ w, Keeps F w0 w → o.quietAt P a (Rw w) w v) ∧ wpTree P ops F w0 K t (a.put o.dst v) w else wpTree P ops F w0 K t (a.put o.dst undef) w
  | .sole i t, a, w => ∃ o, ops[i]? = some o ∧ ∀ w1, Rw w w1 → wpList P ops (fun e a' w' => e = .normal ∧ Keeps F w0 w' ∧ wpTree P ops F w0 K t a' w') [o] a w1
  | .fork i t j u, a, w => (∃ o, ops[i]? = some o ∧ ∀ w1, Rw w w1 → wpList P ops (fun e a' w' => e = .normal ∧ Keeps F w0 w' ∧ wpTree P ops F w0 K t a' w') [o] a w1) ∧
      ∃ o, ops[j]? = some o ∧ ∀ w1, Rw w w1 → wpList P ops (fun e a' w' => e = .normal ∧ Keeps F w0 w' ∧ wpTree P ops F w0 K u a' w') [o] a w1
theorem wpDr_tree {K : Act → World → Prop} (hsel : Region.noSelect ops = true) : ∀ (t : Tree) (f : Nat) (listed : Array Bool) (a : Act) (w : World), treeB md ops t f listed = true → Keeps F w0 w → wpTree P ops F w0 K t a w → wpDr P md ops F w0 K f listed a w
  | .done, f, listed, a, w, hB, _, h => by
    simp only [treeB, Bool.and_eq_true, decide_eq_true_eq] at hB
    obtain ⟨rfl, hB⟩ := hB
    exact ⟨by simpa using hB, h⟩
  | .head i r, f, listed, a, w, hB, hw, h => by
    simp only [treeB, Bool.and_eq_true, decide_eq_true_eq] at hB
    obtain ⟨g, rfl⟩ : ∃ g, f = g + 1 := ⟨f - 1, by omega⟩
    obtain ⟨o, h0, h⟩ := h
    by_cases hwt : Region.wanted o (yielded ops a.tmps) = true
    · simp only [hwt, if_true] at h
      obtain ⟨v, hv, hK⟩ := h
      exact wpDr_first h0 (Region.noSelect_spec hsel) g listed a w (Region.free_spec h0 hB.1.2) hB.1.1.2 (.inl ⟨hwt, hv⟩) hw (wpDr_tree hsel r _ _ _ _ hB.2 hw hK)
    · simp only [hwt] at h
      exact wpDr_first h0 (Region.noSelect_spec hsel) g listed a w (Region.free_spec h0 hB.1.2) hB.1.1.2 (.inr ⟨by simpa using hwt, rfl⟩) hw (wpDr_tree hsel r _ _ _ _ hB.2 hw h)
  | .sole i r, f, listed, a, w, hB, hw, h => by
    simp only [treeB, Bool.and_eq_true, decide_eq_true_eq] at hB
    obtain ⟨g, rfl⟩ : ∃ g, f = g + 1 := ⟨f - 1, by omega⟩
    obtain ⟨o, h0, h⟩ := h
    refine ⟨fun h1 => (by rw [hB.1.2] at h1; cases h1), fun j hj w1 h1 => ?_⟩
    rw [hB.1.2] at hj
    have hik : j = i := by simpa using hj
    subst hik
    exact wpOp_mono (fun a' w' h' => ⟨h'.1, wpDr_tree hsel r _ _ a' w' hB.2 h'.1 h'.2⟩) (wpOp_of_one (K := fun a' w' => Keeps F w0 w' ∧ wpTree P ops F w0 K r a' w') h0 (h w1 h1))
  | .fork i r j u, f, listed, a, w, hB, hw, h => by
    simp only [treeB, Bool.and_eq_true, decide_eq_true_eq] at hB
    obtain ⟨g, rfl⟩ : ∃ g, f = g + 1 := ⟨f - 1, by omega⟩
    obtain ⟨⟨o, h0, h⟩, ⟨p, k0, k⟩⟩ := h
    refine ⟨fun h1 => (by rw [hB.1.1.2] at h1; cases h1), fun m hm w1 h1 => ?_⟩
    rw [hB.1.1.2] at hm
    have hmm : m = i ∨ m = j := by simpa using hm
    rcases hmm with rfl | rfl
    · exact wpOp_mono (fun a' w' h' => ⟨h'.1, wpDr_tree hsel r _ _ a' w' hB.1.2 h'.1 h'.2⟩) (wpOp_of_one (K := fun a' w' => Keeps F w0 w' ∧ wpTree P ops F w0 K r a' w') h0 (h w1 h1))
    · exact wpOp_mono (fun a' w' h' => ⟨h'.1, wpDr_tree hsel u _ _ a' w' hB.2 h'.1 h'.2⟩) (wpOp_of_one (K := fun a' w' => Keeps F w0 w' ∧ wpTree P ops F w0 K u a' w') k0 (k w1 h1))
def regionT (ops : Array Oper) (t : Tree) : Bool := Region.noSelect ops && treeB .any ops t ops.size (Array.replicate ops.size false)
theorem wp_region_tree {id : Nat} {Q : Exit → Act → World → Prop} {a : Act} {w : World} {l : List Oper} (F : Nat → Prop) (t : Tree) (hm : P.follows .mixedOrders = true) (hB : regionT l.toArray t = true)
    (h : wpTree P l.toArray F w.drew (fun a' w' => Q .normal a' w') t a w.drew) : (Code.region id l.toArray true).wp P Q a w := by
  simp only [regionT, Bool.and_eq_true] at hB
  refine wp_region_any hm ?_
  have G := wpDr_tree hB.1 t l.toArray.size (Array.replicate l.toArray.size false) a w.drew hB.2 (Keeps.refl F w.drew) h
  exact wpAny_of_dr (fun _ _ h => h) _ _ _ _ G
theorem tree_done {K : Act → World → Prop} {a : Act} {w : World} (h : ∀ w1, Rw w w1 → K a w1) : wpTree P ops F w0 K .done a w := h
theorem tree_head {K' : Act → World → Prop} {i : Nat} {r : Tree} {a : Act} {w : World} {o : Oper} (hi : ops[i]? = some o)
    (h : ∀ K : Act → Prop, (∀ a, wpTree P ops F w0 K' r a w → K a) → if Region.wanted o (yielded ops a.tmps) then ∃ v, (∀ w, Keeps F w0 w → o.quietAt P a (Rw w) w v) ∧ K (a.put o.dst v) else K (a.put o.dst undef)) : wpTree P ops F w0 K' (.head i r) a w :=
  ⟨o, hi, h _ (fun _ h => h)⟩
theorem tree_sole {K' : Act → World → Prop} {i : Nat} {r : Tree} {a : Act} {w : World} {o : Oper} (hi : ops[i]? = some o)
    (h : ∀ w1, Rw w w1 → ∀ Q' : Exit → Act → World → Prop, (∀ a' w', Keeps F w0 w' → wpTree P ops F w0 K' r a' w' → Q' .normal a' w') → wpList P ops Q' [o] a w1) : wpTree P ops F w0 K' (.sole i r) a w :=
  ⟨o, hi, fun w1 h1 => h w1 h1 _ fun _ _ h2 h3 => ⟨rfl, h2, h3⟩⟩
theorem tree_fork {K' : Act → World → Prop} {i j : Nat} {r u : Tree} {a : Act} {w : World} {o p : Oper} (hi : ops[i]? = some o) (hj : ops[j]? = some p)
    (h : ∀ w1, Rw w w1 → ∀ Q' : Exit → Act → World → Prop, (∀ a' w', Keeps F w0 w' → wpTree P ops F w0 K' r a' w' → Q' .normal a' w') → wpList P ops Q' [o] a w1)
    (k : ∀ w1, Rw w w1 → ∀ Q' : Exit → Act → World → Prop, (∀ a' w', Keeps F w0 w' → wpTree P ops F w0 K' u a' w' → Q' .normal a' w') → wpList P ops Q' [p] a w1) : wpTree P ops F w0 K' (.fork i r j u) a w :=
  ⟨⟨o, hi, fun w1 h1 => h w1 h1 _ fun _ _ h2 h3 => ⟨rfl, h2, h3⟩⟩, ⟨p, hj, fun w1 h1 => k w1 h1 _ fun _ _ h2 h3 => ⟨rfl, h2, h3⟩⟩⟩
end Go.Proofs.YtilccncddbgpbaaDoor.Pl
