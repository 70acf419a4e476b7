/-
append of whatever slice, empty or not: what the result holds, and in which block.
-/
import Derived.Test.YtppjniogblgdcaaDoorSg
namespace Go.Proofs.YtppjniogblgdcaaDoor
open Go.RowKit

theorem run_append_any {P : Program} (w : World) (t ty e : TypeId) (i : TypeInfo) (z : Value) (size bytes : Nat) (ht : P.underlying t = some (.slice e)) (hi : P.info? e = some i) (hz : i.zero = some z)
    (hsize : i.size = size) (hby : i.bytes = bytes) (hzs : z.cells.size = size) (hsz : 0 < size)
    (v : Value) (n : Nat) (xs : List Value) (hseg : Sg w size v n xs) (u : Value) (m : Nat) (ys : List Value) (hu : Sg w size u m ys) (h1 : ∀ y ∈ ys, y.oneCell' = true)
    (h63 : n + m ≤ maxLen) (hbytes : (n + m) * bytes ≤ 140737488355328) :
    ∃ v' w', (Builtin.append_ #[t, t] ty #[v, u]).run P w = .ok v' w' ∧ Sg w' size v' (n + m) (xs ++ ys) ∧ (∀ g, vblk v' = some g → vblk v = some g ∨ w.heap.size ≤ g) ∧ Keeps (fun k => vblk v = some k) w w' := by
  rcases Nat.eq_zero_or_pos m with rfl | hm
  · obtain ⟨hyl, bo, bc, rfl, -, -, -⟩ := hu
    obtain rfl : ys = [] := List.eq_nil_of_length_eq_zero (by simpa using hyl)
    have hv := hseg
    obtain ⟨hl, ao, cap, rfl, hnc, hcm, -⟩ := hseg
    refine ⟨.slice ao n cap, w, ?_, by simpa using hv, fun g h => .inl h, Keeps.refl _ _⟩
    cases ao <;> cases bo <;> simp [Builtin.append_, run_underlying ht, sizeOf, typeInfo, hi, Builtin.lenOf, Builtin.firstCells, hnc, storeCells, loadCells, loadCellsFrom]
  · obtain ⟨g, off, cap, rfl, -, -, -, hgl, hc, -⟩ := hu.open hm
    obtain ⟨g', o, cap', w', hrun, hs, hv, hg, hk⟩ := run_append_sg (P := P) w t ty e i z size bytes ht hi hz hsize hby hzs hsz v n xs hseg ⟨g, off, none⟩ m cap ys hu.len
      (fun j y hj => by
        have hl := (List.getElem?_eq_some_iff.1 hj).1
        rw [hu.len] at hl
        rw [Addr.add_lit, (hc j hl).1]; exact hj) h1 hm h63 hbytes
    exact ⟨_, w', hrun, hs, fun g hg' => by rw [hv] at hg'; obtain rfl := Option.some.inj hg'; exact hg, hk⟩

/-- append, as the walk meets it -/
theorem wpList_append_any {P : Program} (w : World) {ops : Array Oper} {rest : List Oper} {o : Oper} {a : Act} {Q : Exit → Act → World → Prop}
    (hg : o.guard = none) (s x : Operand) (t : TypeId) (hop : o.op = Op.call { callee := Callee.builtin Builtin.append, args := #[s, x], argTypes := #[t, t] })
    (e : TypeId) (i : TypeInfo) (z : Value) (size bytes : Nat) (h1 : P.underlying t = some (.slice e)) (h2 : P.info? e = some i) (h3 : i.zero = some z) (h4 : i.size = size) (h5 : i.bytes = bytes) (h6 : z.cells.size = size) (h7 : 0 < size)
    (v : Value) (n : Nat) (xs : List Value) (hs : a.eval s = v) (hseg : Sg w size v n xs) (u : Value) (m : Nat) (ys : List Value) (hx : a.eval x = u) (hu : Sg w size u m ys) (h1c : ∀ y ∈ ys, y.oneCell' = true)
    (b1 : n + m ≤ maxLen) (b2 : (n + m) * bytes ≤ 140737488355328)
    (hK : ∀ v' w', Sg w' size v' (n + m) (xs ++ ys) → (∀ g, vblk v' = some g → vblk v = some g ∨ w.heap.size ≤ g) → Keeps (fun k => vblk v = some k) w w' → wpList P ops Q rest (a.put o.dst v') w') :
    wpList P ops Q (o :: rest) a w := by
  refine wpList_plain hg fun K hK' => ?_
  obtain ⟨v', w', hrun, r1, r2, r3⟩ := run_append_any (P := P) w t o.type e i z size bytes h1 h2 h3 h4 h5 h6 h7 v n xs hseg u m ys hu h1c b1 b2
  unfold Oper.wp
  simp [execOp, hop, resolve, invoke, builtin, hs, hx, hrun, Result.andThen]
  exact hK' _ _ (hK v' w' r1 r2 r3)
end Go.Proofs.YtppjniogblgdcaaDoor
