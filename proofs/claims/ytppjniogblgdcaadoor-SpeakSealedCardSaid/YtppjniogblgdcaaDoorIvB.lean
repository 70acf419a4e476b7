/-
Integers in blocks; quiet walks whose values the walk itself finds.
-/
import Derived.Test.YtppjniogblgdcaaDoorRows
import Derived.Test.YtppjniogblgdcaaDoorBySg
import Derived.Test.YtppjniogblgdcaaDoorPlanT
import Derived.Test.YtppjniogblgdcaaDoorPlanL
import Derived.LoopTactic
import Derived.Deep.DeepCutAuto
import Derived.BigRegion
import Derived.Outline
import Derived.Deep.MidRow
import Derived.ChangeKeysEq
namespace Go.Proofs.YtppjniogblgdcaaDoor
open Go.RowKit
set_option maxRecDepth 100000

theorem wp_gen {P : Program} {c : Code} {Q : Exit → Act → World → Prop} {a : Act} {W : World} (R : World → Prop) (h : R W) (k : ∀ w1, R w1 → Code.wp P c Q a w1) : Code.wp P c Q a W := k W h
theorem list_gen {P : Program} {ops : Array Oper} {l : List Oper} {Q : Exit → Act → World → Prop} {a : Act} {W : World} (R : World → Prop) (h : R W) (k : ∀ w1, R w1 → wpList P ops Q l a w1) : wpList P ops Q l a W := k W h
theorem calls_gen {f : FuncId} {args : Array Value} {Q : Ending → World → Prop} {W : World} (R : World → Prop) (h : R W) (k : ∀ w1, R w1 → Calls Tryd.prog f args w1 Q) : Calls Tryd.prog f args W Q := k W h
/-- integers of one kind as values -/
def iv (k : IntKind) (l : List Int) : List Value := l.map (Value.int k)
theorem iv_len (k : IntKind) (l : List Int) : (iv k l).length = l.length := by simp [iv]
theorem iv_get (k : IntKind) (l : List Int) (i : Nat) (h : i < l.length) : (iv k l)[i]? = some (.int k (l.getD i 0)) := by simp [iv, h]
theorem iv_one (k : IntKind) (l : List Int) : ∀ v ∈ iv k l, v.oneCell' = true := by intro y hy; obtain ⟨d, _, rfl⟩ := List.mem_map.1 hy; rfl
theorem iv_set (k : IntKind) (l : List Int) (i : Nat) (d : Int) : (iv k l).set i (.int k d) = iv k (l.set i d) := by simp [iv, List.map_set]
theorem Blk.iset {k : IntKind} {w : World} {b : Nat} {t : TypeId} {l : List Int} (h : Blk w b t (iv k l)) (i : Nat) (d : Int) : Blk (w.setCell ⟨b, i, none⟩ (.int k d)) b t (iv k (l.set i d)) := by rw [← iv_set]; exact h.set i _
theorem Blk.icell {k : IntKind} {w : World} {b : Nat} {t : TypeId} {l : List Int} (h : Blk w b t (iv k l)) (i : Nat) (hi : i < l.length) : w.cell? ⟨b, i, none⟩ = some (.int k (l.getD i 0)) := h.cell i _ (iv_get k l i hi)
theorem list8 (l : List Int) (h : l.length = 8) : ∃ a b c d e f g k, l = [a, b, c, d, e, f, g, k] := by
  match l, h with
  | [a, b, c, d, e, f, g, k], _ => exact ⟨a, b, c, d, e, f, g, k, rfl⟩
theorem set_len (l : List Int) (i : Nat) (d : Int) : (l.set i d).length = l.length := List.length_set ..
theorem val_int {k : IntKind} {a b : Int} (h : a = b) : Value.int k a = .int k b := by rw [h]

section
variable {P : Program} {ops : Array Oper} {C : World → Prop} {a : Act} {o : Oper} {K : Act → Prop}
theorem quiet_autoE (hg : Region.wanted o (yielded ops a.tmps) = true) (h : ∃ v, (∀ w, C w → (execOp a.eval o).run P w = .ok (.value v) w) ∧ K (a.put o.dst v)) :
    if Region.wanted o (yielded ops a.tmps) then o.quiet P a C K else K (a.put o.dst undef) := by
  obtain ⟨v, hv, hk⟩ := h
  exact quiet_plainG v hg hv hk
theorem quiet_callE (hg : Region.wanted o (yielded ops a.tmps) = true) (h : ∃ f args, (∀ w, (execOp a.eval o).run P w = .ok (.enter f args) w) ∧ ∃ v, (∀ w, C w → Calls P f args w fun e w' => e = .returned v ∧ C w') ∧ K (a.put o.dst v)) :
    if Region.wanted o (yielded ops a.tmps) then o.quiet P a C K else K (a.put o.dst undef) := by
  obtain ⟨f, args, hv, v, hc, hk⟩ := h
  exact quiet_callG v f args hg hv hc hk
theorem quiet_skipE (hg : Region.wanted o (yielded ops a.tmps) = false) (h : K (a.put o.dst undef)) :
    if Region.wanted o (yielded ops a.tmps) then o.quiet P a C K else K (a.put o.dst undef) := by
  rw [if_neg (by rw [hg]; decide)]
  exact h
theorem quiet_loadN {b off ty : Nat} {d : TypeDesc} {x : Operand} {cs : List Value} (hb : ∀ w, C w → w.rangeAt b off cs)
    (hu : P.underlying ty = some d) (hd : d.isRow = true) (hi : (P.info? ty).map (·.size) = some cs.length) (hg : Region.wanted o (yielded ops a.tmps) = true) (ho : o.op = .load ty x) (hx : a.eval x = .pointer (some ⟨b, off, none⟩)) (h : K (a.put o.dst (.agg cs.toArray))) :
    if Region.wanted o (yielded ops a.tmps) then o.quiet P a C K else K (a.put o.dst undef) :=
  quiet_plainG (.agg cs.toArray) hg (fun w hw => by
    unfold execOp
    simp only [ho, hx, run_loadAt_mid w b off ty cs _ (hb w hw) hu hd hi, Sem.run_bind, Sem.run_pure, Result.andThen_ok]) h
end
theorem Blk.range {w : World} {b : Nat} {t : TypeId} {xs : List Value} (h : Blk w b t xs) (k : Nat) (cs : List Value) (hc : ∀ j v, cs[j]? = some v → xs[k + j]? = some v) : w.rangeAt b k cs := fun j v hv => h.cell (k + j) v (hc j v hv)
theorem Blk.rw {w w' : World} {b : Nat} {t : TypeId} {cs : List Value} (h : Blk w b t cs) (hb : Rw w w') : Blk w' b t cs := h.below hb h.lt
theorem Rw.out {a b c : World} (h : Below a.heap.size a b) (k : Rw b c) : Below a.heap.size a c := h.trans (Below.mono k h.size)
theorem run_index_iv {P : Program} {t e : TypeId} {n : Nat} {k ke : IntKind} {l : List Int} (ht : P.underlying t = some (.array n e)) (he : P.underlying e = some (.int ke)) (hi : (P.info? e).map (·.size) = some 1) (hl : l.length = n) (q : Nat) (hq : q < n) (w : World) :
    (Instr.index t (.agg (iv k l).toArray) (.int .i64 (q : Nat))).run P w = .ok (.int k (l.getD q 0)) w := by
  have hg := iv_get k l q (by omega)
  cases hi2 : P.info? e with
  | none => rw [hi2] at hi; cases hi
  | some i =>
    rw [hi2] at hi
    have hz : i.size = 1 := by simpa using hi
    generalize iv k l = L at *
    generalize Value.int k (l.getD q 0) = v at *
    simp [Instr.index, run_underlying ht, hq, part, isAgg, run_underlying he, sizeOf, typeInfo, hi2, hz, hg, asIntOf]
theorem new_row (w : World) (t : TypeId) (z cs : List Value) : Blk ((w.alloc (.cells z.toArray t)).setRow w.heap.size cs.toArray) w.heap.size t cs ∧ Rw w ((w.alloc (.cells z.toArray t)).setRow w.heap.size cs.toArray) :=
  ⟨(Blk.new w t z).setRow cs, below_row (below1 w _) _ _ (Nat.le_refl _)⟩
/-- a contract that leaves new blocks alone is one for a quiet walk -/
theorem quiet_below {f : FuncId} {args : Array Value} {v : Value} {w0 w : World} (hw : Rw w0 w) (h : Calls Tryd.prog f args w fun e w' => e = .returned v ∧ Below w.heap.size w w') :
    Calls Tryd.prog f args w fun e w' => e = .returned v ∧ Rw w0 w' := h.mono fun _ _ ⟨he, hb⟩ => ⟨he, hw.trans hb⟩
theorem quiet_same {f : FuncId} {args : Array Value} {v : Value} {w0 w : World} (hw : Rw w0 w) (h : Calls Tryd.prog f args w fun e w' => e = .returned v ∧ w = w') :
    Calls Tryd.prog f args w fun e w' => e = .returned v ∧ Rw w0 w' := h.mono fun _ _ ⟨he, hb⟩ => ⟨he, hb ▸ hw⟩
end Go.Proofs.YtppjniogblgdcaaDoor
