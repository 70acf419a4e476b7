/-
Arrays of 32 bytes: when they are equal.
-/
import Derived.Test.YtopelehfffjfeaaFIs
import Derived.ChangeKeysEq
namespace Go.Proofs.Ytopelehfffjfeaa
open Go.RowKit

theorem part_byte (w : World) (l : List UInt8) (i : Nat) (h : i < l.length) : (Go.part 5 (bvals l).toArray (i * 1)).run Try.prog w = .ok (.int .u8 ((l.getD i 0).toNat : Nat)) w := by
  have e := bvals_get l i h
  exact run_part_plain w (by kernel_rfl) (by rw [Nat.mul_one, List.getElem?_toArray]; exact e)
theorem eqItems_bytes (w : World) (l m : List UInt8) (hl : l.length = 32) (hm : m.length = 32) : ∀ (is : List Nat), (∀ i ∈ is, i < 32) →
    (Op.eqItems 9999 5 1 (bvals l).toArray (bvals m).toArray is).run Try.prog w = .ok (is.all fun i => l.getD i 0 == m.getD i 0) w
  | [], _ => by simp [Op.eqItems]
  | i :: is, h => by
    have hi := h i (List.mem_cons_self ..)
    have ih := eqItems_bytes w l m hl hm is (fun j hj => h j (List.mem_cons_of_mem _ hj))
    have hq : ((((l.getD i 0).toNat : Nat) : Int) == ((m.getD i 0).toNat : Nat)) = (l.getD i 0 == m.getD i 0) := by
      rw [Bool.eq_iff_iff, beq_iff_eq, beq_iff_eq]
      constructor
      · intro e; exact UInt8.toNat.inj (by omega)
      · intro e; rw [e]
    simp only [Op.eqItems, Sem.run_bind, part_byte w l i (by omega), part_byte w m i (by omega), Result.andThen_ok, run_equalIn_int w 9998 5 .u8 .u8 _ _ Try.underlying5, hq, List.all_cons]
    cases l.getD i 0 == m.getD i 0
    · rfl
    · exact ih
theorem range_all {l m : List UInt8} (hl : l.length = 32) (hm : m.length = 32) : ((List.range 32).all fun i => l.getD i 0 == m.getD i 0) = decide (l = m) := by
  rw [Bool.eq_iff_iff, List.all_eq_true, decide_eq_true_iff]
  constructor
  · intro h
    apply List.ext_getElem (by omega)
    intro i h1 h2
    have := h i (List.mem_range.2 (by omega))
    simpa [h1, h2] using this
  · rintro rfl i _
    simp
theorem eq32 (w : World) (l m : List UInt8) (hl : l.length = 32) (hm : m.length = 32) : (Op.equalIn 10000 55 (.agg (bvals l).toArray) (.agg (bvals m).toArray)).run Try.prog w = .ok (decide (l = m)) w := by
  obtain ⟨i0, hi, _, h1, _⟩ := info_parts byteInfo
  rw [run_equalIn_array w 9999 (bvals l).toArray (bvals m).toArray Try.underlying55 hi, show Try.prog.cellsOf 5 = 1 from by kernel_rfl, eqItems_bytes w l m hl hm _ (fun i h => List.mem_range.1 h), range_all hl hm]
end Go.Proofs.Ytopelehfffjfeaa
