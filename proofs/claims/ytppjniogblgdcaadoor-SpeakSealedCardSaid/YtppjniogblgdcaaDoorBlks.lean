/-
A block loaded whole, stored whole, returned whole.
-/
import Derived.Test.YtppjniogblgdcaaDoorCom
import Derived.Laws.Rows
namespace Go.Proofs.YtppjniogblgdcaaDoor
open Go.RowKit

theorem Blk.setRow {w : World} {b : Nat} {t : TypeId} {cs : List Value} (h : Blk w b t cs) (new : List Value) : Blk (w.setRow b new.toArray) b t new := setRow_heap w b _ _ t _ h
theorem Blk.farRow {w : World} {b c : Nat} {t : TypeId} {cs : List Value} (h : Blk w b t cs) (hne : b ≠ c) (new : Array Value) : Blk (w.setRow c new) b t cs := by
  show (w.setRow c new).heap[b]? = _
  rw [setRow_other _ _ _ _ hne]; exact h
theorem below_row {B : Nat} {w0 w : World} (h : Below B w0 w) (b : Nat) (v : Array Value) (hb : B ≤ b) : Below B w0 (w.setRow b v) :=
  h.trans ⟨rfl, rfl, rfl, by simp, fun k hk => setRow_other _ _ _ _ (by omega)⟩
/-- a struct or an array -/
def wide : TypeDesc → Bool
  | .struct _ | .array _ _ => true
  | _ => false
theorem load_blk {P : Program} {ops : Array Oper} {rest : List Oper} {o : Oper} {a : Act} {w : World} {Q : Exit → Act → World → Prop} {b ty n : Nat} {d : TypeDesc} {x : Operand} {cs : List Value} {t : TypeId} (hb : Blk w b t cs)
    (hu : P.underlying ty = some d) (hd : wide d = true) (hi : (P.info? ty).map (·.size) = some n) (hn : cs.length = n) (hgd : o.guard = none) (ho : o.op = .load ty x) (hx : a.eval x = .pointer (some ⟨b, 0, none⟩))
    (h : wpList P ops Q rest (a.put o.dst (.agg cs.toArray)) w) : wpList P ops Q (o :: rest) a w :=
  wpList_load_row hgd ty x ho b hx t cs.toArray (0, 0) _ hb hu (by cases d <;> first | rfl | cases hd) (by rw [hi]; simp [hn]) h
theorem store_blk {P : Program} {ops : Array Oper} {rest : List Oper} {o : Oper} {a : Act} {w : World} {Q : Exit → Act → World → Prop} {b ty n : Nat} {x y : Operand} {old cs : List Value} {t : TypeId} (hb : Blk w b t old)
    (hi : (P.info? ty).map (·.size) = some n) (hn : cs.length = n) (hl : old.length = n) (h1 : ∀ v ∈ cs, v.oneCell' = true) (hgd : o.guard = none) (ho : o.op = .store ty x y) (hx : a.eval x = .pointer (some ⟨b, 0, none⟩)) (hy : a.eval y = .agg cs.toArray)
    (h : wpList P ops Q rest (a.put o.dst undef) (w.setRow b cs.toArray)) : wpList P ops Q (o :: rest) a w :=
  wpList_store_row hgd ty x y ho b cs.toArray hx hy t old.toArray hb (by rw [hi]; simp [hn]) (by simp; omega) (by simpa using h1) h
theorem ret_blk {P : Program} {fn : Func} {R : Ending → World → Prop} {a : Act} {w : World} {p : Tmp} {ty n : Nat} {d : TypeDesc} {b : Nat} {t : TypeId} {cs : List Value} (h : fn.results = #[.cell p ty]) (hb : Blk w b t cs)
    (hu : P.underlying ty = some d) (hd : wide d = true) (hi : (P.info? ty).map (·.size) = some n) (hn : cs.length = n) (hp : a.tmps.getD p undef = .pointer (some ⟨b, 0, none⟩)) (hdf : a.defers = []) (hR : R (.returned (.agg cs.toArray)) w) : bodyPost P fn R .ret a w :=
  bodyPost_ret (results_cell_row h a.tmps w b t cs.toArray (0, 0) _ hp hb hu (by cases d <;> first | rfl | cases hd) (by rw [hi]; simp [hn])) hdf hR
theorem Blk.new2 (w : World) (o : Obj) (t : TypeId) (cs : List Value) : Blk ((w.alloc o).alloc (.cells cs.toArray t (0, 0))) (w.heap.size + 1) t cs := by
  have := Blk.new (w.alloc o) t cs
  rwa [show (w.alloc o).heap.size = w.heap.size + 1 by simp] at this
theorem Blk.new3 (w : World) (o o2 : Obj) (t : TypeId) (cs : List Value) : Blk (((w.alloc o).alloc o2).alloc (.cells cs.toArray t (0, 0))) (w.heap.size + 2) t cs := by
  have := Blk.new ((w.alloc o).alloc o2) t cs
  rwa [show ((w.alloc o).alloc o2).heap.size = w.heap.size + 2 by simp] at this
theorem below1 (w : World) (o : Obj) : Below w.heap.size w (w.alloc o) := (Below.refl _ _).alloc (Nat.le_refl _) _
theorem below2 (w : World) (o o2 : Obj) : Below w.heap.size w ((w.alloc o).alloc o2) := (below1 w o).alloc (by simp) _
theorem below3 (w : World) (o o2 o3 : Obj) : Below w.heap.size w (((w.alloc o).alloc o2).alloc o3) := (below2 w o o2).alloc (by simp; omega) _
end Go.Proofs.YtppjniogblgdcaaDoor
