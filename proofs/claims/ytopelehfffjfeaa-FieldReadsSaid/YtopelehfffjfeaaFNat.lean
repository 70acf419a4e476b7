/-
A number of 64 bits, as a natural number.
-/
import Derived.Test.YtopelehfffjfeaaOpen
namespace Go.Proofs.Ytopelehfffjfeaa
open Go.RowKit Go.ChangeShapes Go.WideShapes Go.ChangeMaps

theorem u64_nat {x : Int} (h : (Lit.int .u64 x).wf = true) : ∃ n : Nat, x = n ∧ n < 18446744073709551616 := by
  have hb := bounds_u64 h
  exact ⟨x.toNat, by omega, by omega⟩
end Go.Proofs.Ytopelehfffjfeaa
