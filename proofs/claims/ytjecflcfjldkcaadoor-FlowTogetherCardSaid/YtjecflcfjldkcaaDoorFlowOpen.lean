/-
The acts of the statements of layer 18, opened to their cells.
-/
import Derived.Test.YtjecflcfjldkcaaDoorOpenS
import Derived.Test.YtjecflcfjldkcaaDoorFlowRecvs
namespace Go.Proofs.YtjecflcfjldkcaaDoor
open Go.RowKit Go.ChangeShapes Go.WideShapes Go.ChangeMaps

theorem u32_nat {x : Int} (h : (Lit.int .u32 x).wf = true) : ∃ n : Nat, x = n ∧ n < 4294967296 := by
  have hb := bounds_u32 h
  exact ⟨x.toNat, by omega, by omega⟩

theorem acts_of {H : Type} {enc : TypeId × Value → H} {W : World} {a : Option Addr} {len : Nat} {base : Nat} {sp : Nat → Bool} {held : Bool} {f0 f1 f2 : Field} (t0 : f0.type = 3) (t1 : f1.type = 3) (t2 : f2.type = 9)
    (h : ∀ i, i < len → ∃ b off, a = some ⟨b, off, none⟩ ∧ b < W.heap.size ∧ ∀ (j : Nat) (f : Field), (#[f0, f1, f2] : Array Field)[j]? = some f → ∃ (v : Value) (y : DataW H × List MemPlace) (n : Nat), W.cell? ⟨b, off + (i * (#[f0, f1, f2] : Array Field).size + j), none⟩ = some v ∧ DataW.trod enc Tryd.prog W base sp held n f.type [v] = some y) :
    ActsAt W a len := by
  intro i hi
  obtain ⟨b, off, rfl, hb, hf⟩ := h i hi
  obtain ⟨v0, y0, n0, c0, h0⟩ := hf 0 f0 rfl
  obtain ⟨v1, y1, n1, c1, h1⟩ := hf 1 f1 rfl
  obtain ⟨v2, y2, n2, c2, h2⟩ := hf 2 f2 rfl
  rw [t0] at h0
  rw [t1] at h1
  rw [t2] at h2
  obtain ⟨x0, e0, _, _⟩ := DataW.trod_int Tryd.underlying3 h0
  obtain ⟨x1, e1, _, _⟩ := DataW.trod_int Tryd.underlying3 h1
  obtain ⟨x2, e2, _, _⟩ := DataW.trod_string Tryd.underlying9 h2
  simp only [List.cons.injEq, and_true] at e0 e1 e2
  subst e0; subst e1; subst e2
  exact ⟨b, off, x0, x1, x2, rfl, hb, c0, c1, c2⟩
end Go.Proofs.YtjecflcfjldkcaaDoor
