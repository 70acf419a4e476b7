/-
The acts of NetPlays, opened to their cells.
-/
import Derived.Test.YtbllecnhhcfcfaaDoorOpenS
import Derived.Test.YtbllecnhhcfcfaaDoorNetPlays
namespace Go.Proofs.YtbllecnhhcfcfaaDoor
open Go.RowKit Go.ChangeShapes Go.WideShapes Go.ChangeMaps

theorem u8_nat {x : Int} (h : (Lit.int .u8 x).wf = true) : ∃ n : Nat, x = n ∧ n < 256 := by
  have hb := bounds_u8 h
  exact ⟨x.toNat, by omega, by omega⟩
theorem nacts_of {H : Type} {enc : TypeId × Value → H} {W : World} {a : Option Addr} {len : Nat} {base : Nat} {sp : Nat → Bool} {held : Bool} {f0 f1 f2 f3 f4 : Field} (t0 : f0.type = 3) (t1 : f1.type = 3) (t2 : f2.type = 3) (t3 : f3.type = 9) (t4 : f4.type = 5)
    (h : ∀ i, i < len → ∃ b off, a = some ⟨b, off, none⟩ ∧ b < W.heap.size ∧ ∀ (j : Nat) (f : Field), (#[f0, f1, f2, f3, f4] : Array Field)[j]? = some f → ∃ (v : Value) (y : DataW H × List MemPlace) (n : Nat), W.cell? ⟨b, off + (i * (#[f0, f1, f2, f3, f4] : Array Field).size + j), none⟩ = some v ∧ DataW.trod enc Tryd.prog W base sp held n f.type [v] = some y) :
    NActsAt W a len := by
  intro i hi
  obtain ⟨b, off, rfl, hb, hf⟩ := h i hi
  obtain ⟨v0, y0, n0, c0, h0⟩ := hf 0 f0 rfl
  obtain ⟨v1, y1, n1, c1, h1⟩ := hf 1 f1 rfl
  obtain ⟨v2, y2, n2, c2, h2⟩ := hf 2 f2 rfl
  obtain ⟨v3, y3, n3, c3, h3⟩ := hf 3 f3 rfl
  obtain ⟨v4, y4, n4, c4, h4⟩ := hf 4 f4 rfl
  rw [t0] at h0
  rw [t1] at h1
  rw [t2] at h2
  rw [t3] at h3
  rw [t4] at h4
  obtain ⟨x0, e0, _, _⟩ := DataW.trod_int Tryd.underlying3 h0
  obtain ⟨x1, e1, _, _⟩ := DataW.trod_int Tryd.underlying3 h1
  obtain ⟨x2, e2, _, _⟩ := DataW.trod_int Tryd.underlying3 h2
  obtain ⟨x3, e3, _, _⟩ := DataW.trod_string Tryd.underlying9 h3
  obtain ⟨x4, e4, _, w4⟩ := DataW.trod_int Tryd.underlying5 h4
  obtain ⟨m4, rfl, hm4⟩ := u8_nat w4
  simp only [List.cons.injEq, and_true] at e0 e1 e2 e3 e4
  subst e0; subst e1; subst e2; subst e3; subst e4
  exact ⟨b, off, x0, x1, x2, x3, m4, rfl, hb, hm4, c0, c1, c2, c3, c4⟩
end Go.Proofs.YtbllecnhhcfcfaaDoor
