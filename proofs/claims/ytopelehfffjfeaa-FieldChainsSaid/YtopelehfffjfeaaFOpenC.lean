/-
The acts of the statements of layer 5, opened to their cells.
-/
import Derived.Test.YtopelehfffjfeaaOpenS
import Derived.Test.YtopelehfffjfeaaFChains
namespace Go.Proofs.Ytopelehfffjfeaa
open Go.RowKit Go.ChangeShapes Go.WideShapes Go.ChangeMaps

theorem acts_of {H : Type} {enc : TypeId × Value → H} {W : World} {a : Option Addr} {len : Nat} {base : Nat} {sp : Nat → Bool} {held : Bool} {f0 f1 : Field} (t0 : f0.type = 3) (t1 : f1.type = 9)
    (h : ∀ i, i < len → ∃ b off, a = some ⟨b, off, none⟩ ∧ b < W.heap.size ∧ ∀ (j : Nat) (f : Field), (#[f0, f1] : Array Field)[j]? = some f → ∃ (v : Value) (y : DataW H × List MemPlace) (n : Nat), W.cell? ⟨b, off + (i * (#[f0, f1] : Array Field).size + j), none⟩ = some v ∧ DataW.trod enc Try.prog W base sp held n f.type [v] = some y) :
    Acts2 W a len := by
  intro i hi
  obtain ⟨b, off, rfl, hb, hf⟩ := h i hi
  obtain ⟨v0, y0, n0, c0, h0⟩ := hf 0 f0 rfl
  obtain ⟨v1, y1, n1, c1, h1⟩ := hf 1 f1 rfl
  rw [t0] at h0
  rw [t1] at h1
  obtain ⟨x0, e0, _, _⟩ := DataW.trod_int Try.underlying3 h0
  obtain ⟨x1, e1, _, _⟩ := DataW.trod_string Try.underlying9 h1
  simp only [List.cons.injEq, and_true] at e0 e1
  subst e0; subst e1
  exact ⟨b, off, x0, x1, rfl, hb, c0, c1⟩
end Go.Proofs.Ytopelehfffjfeaa
