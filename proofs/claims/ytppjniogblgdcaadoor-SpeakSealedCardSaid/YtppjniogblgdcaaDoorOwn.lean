/-
A row of the call's own, full: its block known whole.
-/
import Derived.Test.YtppjniogblgdcaaDoorCom
import Derived.OwnWalk
namespace Go.Proofs.YtppjniogblgdcaaDoor
open Go.RowKit

theorem blk_of_own {w : World} {base : Nat} {e : TypeId} {g n : Nat} {xs : List Value} (h : w.ownsRow base e 1 (.slice (some ⟨g, 0, none⟩) n n) n xs) : Blk w g e xs ∧ base ≤ g := by
  rcases h.2 with ⟨h', _⟩ | ⟨g', cap', cur, h', hb, hg, _, _, hsz, htk⟩
  · simp at h'
  · simp only [Value.slice.injEq, Option.some.injEq, Addr.mk.injEq, and_true, true_and] at h'
    obtain ⟨rfl, rfl⟩ := h'
    rw [Nat.mul_one] at hsz htk
    rw [List.take_of_length_le (by simp [hsz])] at htk
    subst htk
    exact ⟨by simpa [Blk] using hg, hb⟩
theorem made_one (v : Value) (n : Nat) : (madeCells #[v] n).toList = List.replicate n v := by
  apply List.ext_getElem?
  intro i
  rcases Nat.lt_or_ge i n with h | h
  · simp [madeCells, h, Nat.mod_one]
  · simp [madeCells, h]
end Go.Proofs.YtppjniogblgdcaaDoor
