/-
The forced tail of a drawn region, step by step: calls, plain operations, operations that make memory.
-/
import Derived.Test.YteleedcpepifjaaDoorDrift
namespace Go.Proofs.YteleedcpepifjaaDoor
open Go.RowKit

variable {P : Program} {ops : Array Oper} {w0 : World}
theorem driftT_nil {K : Act → World → Prop} {a : Act} {w : World} (h : ∀ w1, Rw w w1 → K a w1) : wpListD P ops w0 K [] a w := h
theorem driftT_call {K : Act → World → Prop} {o : Oper} {rest : List Oper} {a : Act} {w : World} {G : Value → World → Prop} (f : FuncId) (args : Array Value) (hw0 : Rw w0 w) (hg : Region.wanted o (yielded ops a.tmps) = true)
    (hv : ∀ w, (execOp a.eval o).run P w = .ok (.enter f args) w) (hc : ∀ w1, Rw w w1 → Calls P f args w1 fun e w' => ∃ v, e = .returned v ∧ G v w' ∧ Below w1.heap.size w1 w')
    (h : ∀ v w', Rw w w' → G v w' → wpListD P ops w0 K rest (a.put o.dst v) w') : wpListD P ops w0 K (o :: rest) a w := by
  intro w1 h1
  simp only [wpList]
  rw [if_pos hg]
  refine .inl ?_
  unfold Oper.wp
  rw [hv w1]
  simp only [Oper.upon]
  refine (hc w1 h1).mono ?_
  rintro e w' ⟨v, rfl, hG, hb⟩
  exact ⟨trivial, Rw.trans hw0 (Rw.trans h1 hb), h v w' (Rw.trans h1 hb) hG⟩
theorem driftT_make {K : Act → World → Prop} {o : Oper} {rest : List Oper} {a : Act} {w : World} {G : Value → World → Prop} (hw0 : Rw w0 w) (hg : Region.wanted o (yielded ops a.tmps) = true)
    (hv : ∀ w1, Rw w w1 → ∃ v w2, (execOp a.eval o).run P w1 = .ok (.value v) w2 ∧ Below w1.heap.size w1 w2 ∧ G v w2)
    (h : ∀ v w', Rw w w' → G v w' → wpListD P ops w0 K rest (a.put o.dst v) w') : wpListD P ops w0 K (o :: rest) a w := by
  intro w1 h1
  simp only [wpList]
  rw [if_pos hg]
  refine .inl ?_
  obtain ⟨v, w2, hr, hb, hG⟩ := hv w1 h1
  unfold Oper.wp
  rw [hr]
  simp only [Oper.upon]
  exact ⟨trivial, Rw.trans hw0 (Rw.trans h1 hb), h v w2 (Rw.trans h1 hb) hG⟩
theorem driftT_plain {K : Act → World → Prop} {o : Oper} {rest : List Oper} {a : Act} {w : World} (v : Value) (hw0 : Rw w0 w) (hg : Region.wanted o (yielded ops a.tmps) = true)
    (hv : ∀ w1, Rw w w1 → (execOp a.eval o).run P w1 = .ok (.value v) w1) (h : ∀ w', Rw w w' → wpListD P ops w0 K rest (a.put o.dst v) w') : wpListD P ops w0 K (o :: rest) a w :=
  driftT_make (G := fun u _ => u = v) hw0 hg (fun w1 h1 => ⟨v, w1, hv w1 h1, Below.refl _ _, rfl⟩) (fun _ w' hw hu => hu ▸ h w' hw)
end Go.Proofs.YteleedcpepifjaaDoor
