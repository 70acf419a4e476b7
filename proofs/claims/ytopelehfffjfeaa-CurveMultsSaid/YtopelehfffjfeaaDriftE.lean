/-
Steps of a drifting region over the field's elements; its usual tail: a new variable, and the store into it.
-/
import Derived.Test.YtopelehfffjfeaaFInv
import Derived.Test.YtopelehfffjfeaaDrift
namespace Go.Proofs.Ytopelehfffjfeaa
open Go.RowKit

theorem drift_loadE {ops : Array Oper} {w0 : World} {a : Act} {o : Oper} {K : Act → Prop} {b : Nat} {x : Operand} {l : List Nat} {t : TypeId} (hb : ∀ w, Rw w0 w → Blk w b t (uvals l)) (hl : l.length = 5)
    (hg : Region.wanted o (yielded ops a.tmps) = true) (ho : o.op = .load 29 x) (hx : a.eval x = .pointer (some ⟨b, 0, none⟩)) (h : K (a.put o.dst (.agg (uvals l).toArray))) :
    if Region.wanted o (yielded ops a.tmps) then ∃ v, (∀ w, Rw w0 w → o.quietAt Try.prog a (Rw w) w v) ∧ K (a.put o.dst v) else K (a.put o.dst undef) :=
  drift_load hb Try.underlying29 rfl elem_size (len5 hl) hg ho hx h
theorem run_alloc_el (w : World) : (Instr.alloc tE true (.tuple #[])).run Try.prog w = .ok (.pointer (some ⟨w.heap.size, 0, none⟩)) (w.alloc (.cells (uvals zero5).toArray tE)) := by kernel_rfl
/-- a new variable, and its value -/
theorem drift_new {ops : Array Oper} {w0 : World} {K : Act → World → Prop} {oa os : Oper} {a : Act} {d : Tmp} {y : Operand} {l : List Nat} (ha : oa.op = .alloc tE) (hga : oa.guard = none) (hd : oa.dst = some d)
    (hs : os.op = .store tE (.tmp d) y) (hgs : os.guard = none) (hds : os.dst = none) (hdt : d < a.tmps.size) (hl : l.length = 5) (hy : ∀ v, (a.put (some d) v).eval y = .agg (uvals l).toArray)
    (h : ∀ c w2, w0.heap.size ≤ c → Below w0.heap.size w0 w2 → Blk w2 c tE (uvals l) → K (a.put (some d) (.pointer (some ⟨c, 0, none⟩))) w2) : wpListD Try.prog ops w0 K [oa, os] a w0 := by
  refine driftT_step (fun w1 h1 Q' hQ' => ?_)
  have hz1 : w0.heap.size ≤ w1.heap.size := h1.size
  have hW : Below w0.heap.size w0 (w1.alloc (.cells (uvals zero5).toArray tE)) := Below.alloc h1 hz1 _
  refine wpList_plain hga fun K1 hK1 => ?_
  unfold Oper.wp execOp
  simp only [ha, Sem.run_bind, run_alloc_el w1, Result.andThen_ok, Sem.run_pure, Oper.upon]
  refine hK1 _ _ (hQ' _ _ hW ?_)
  rw [hd]
  refine driftT_step (fun w3 h3 Q2 hQ2 => ?_)
  have hb : Blk w3 w1.heap.size tE (uvals zero5) := (Blk.new w1 tE (uvals zero5)).below h3 (by simp)
  have hW3 : Below w0.heap.size w0 w3 := Rw.trans hW h3
  refine store_blk (n := 5) (t := tE) (b := w1.heap.size) (old := uvals zero5) (cs := uvals l) hb elem_size (len5 hl) rfl (uvals_one l) hgs hs ?_ (hy _) ?_
  · show (a.put (some d) _).tmps.getD d undef = _
    simp [Act.put, hdt]
  · refine hQ2 _ _ (below_row hW3 _ _ hz1) ?_
    rw [hds]
    intro w4 h4
    have hb4 := hb.setRow (uvals l)
    have hW4 := Rw.trans (show Rw w0 (w3.setRow w1.heap.size (uvals l).toArray) from below_row hW3 _ _ hz1) h4
    exact h w1.heap.size w4 hz1 hW4 (hb4.below h4 hb4.lt)
end Go.Proofs.Ytopelehfffjfeaa
