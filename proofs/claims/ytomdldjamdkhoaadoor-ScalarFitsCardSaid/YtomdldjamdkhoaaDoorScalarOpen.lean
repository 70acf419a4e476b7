/-
The laid table, as the walks ask for it.
-/
import Derived.Test.YtomdldjamdkhoaaDoorScalarL
import Derived.Lib.LaidTab
namespace Go.Proofs.YtomdldjamdkhoaaDoor
open Go.RowKit

theorem ordr_of {W : World} (h : laidMet Tryd.prog [("speakeasy/scalar.order", Rows.laid_speakeasy_scalar_order)] W) : Ordr W ∧ 0 < W.heap.size := by
  have hT := Lib.tabIs_of_head (P := Tryd.prog) (W := W) (name := "speakeasy/scalar.order") (k := .u32) (zs := [1559614445, 1477600026, 2734136534, 350157278, 0, 0, 0, 268435456]) (rest := []) (g := 0) (t := 54) (e := 39) (n := 8)
    (by kernel_rfl) (by kernel_rfl) Tryd.underlying54 Tryd.underlying39 (by kernel_rfl) (by kernel_rfl) h
  have hO : Ordr W := fun i hi => by
    rw [hT.cell (g := 0) (by kernel_rfl) i hi]
    match i, hi with
    | 0, _ => rfl
    | 1, _ => rfl
    | 2, _ => rfl
    | 3, _ => rfl
    | 4, _ => rfl
    | 5, _ => rfl
    | 6, _ => rfl
    | 7, _ => rfl
  exact ⟨hO, (cell_lt (hO 0 (by decide))).1⟩
end Go.Proofs.YtomdldjamdkhoaaDoor
