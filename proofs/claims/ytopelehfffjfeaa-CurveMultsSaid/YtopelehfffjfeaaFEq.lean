/-
Elements: when their limbs are equal; a limb out of an array.
-/
import Derived.Test.YtopelehfffjfeaaFCarry
import Derived.ChangeKeysEq
namespace Go.Proofs.Ytopelehfffjfeaa
open Go.RowKit

theorem u64Info : (Try.prog.info? 22).map (fun i => (i.zero, i.size, i.bytes)) = some (some (.int .u64 0), 1, 8) := by kernel_rfl
theorem part_u64 (w : World) (l : List Nat) (i : Nat) (h : i < l.length) : (Go.part 22 (uvals l).toArray (i * 1)).run Try.prog w = .ok (.int .u64 (l.getD i 0 : Nat)) w :=
  run_part_plain w (by kernel_rfl) (by rw [Nat.mul_one, List.getElem?_toArray]; exact uvals_get l i h)
theorem cells_u64 : Try.prog.cellsOf 22 = 1 := by kernel_rfl
theorem idx5 (l : List Nat) (hl : l.length = 5) (i : Nat) (hi : i < 5) (w : World) : (Instr.index 27 (.agg (uvals l).toArray) (.int .i64 (i : Nat))).run Try.prog w = .ok (.int .u64 (l.getD i 0 : Nat)) w := by
  obtain ⟨i0, h0, _, h1, _⟩ := info_parts u64Info
  have h2 := part_u64 w l i (by omega)
  rw [Nat.mul_one] at h2
  have h3 := run_sizeOf (P := Try.prog) w h0
  rw [cells_u64] at h3
  simp [Instr.index, asIntOf, run_underlying Try.underlying27, h3, h2]
  intro h; omega
theorem fld5 (l : List Nat) (hl : l.length = 5) (w : World) : (Instr.field 29 (.agg (uvals l).toArray) 0).run Try.prog w = .ok (.agg (uvals l).toArray) w := by
  obtain ⟨a, b, c, d, e, rfl⟩ := five l hl
  kernel_rfl
theorem eqItems_u64 (d : Nat) (w : World) (l m : List Nat) (hl : l.length = 5) (hm : m.length = 5) : ∀ (is : List Nat), (∀ i ∈ is, i < 5) →
    (Op.eqItems (d + 1) 22 1 (uvals l).toArray (uvals m).toArray is).run Try.prog w = .ok (is.all fun i => l.getD i 0 == m.getD i 0) w
  | [], _ => by simp [Op.eqItems]
  | i :: is, h => by
    have hi := h i (List.mem_cons_self ..)
    have ih := eqItems_u64 d w l m hl hm is (fun j hj => h j (List.mem_cons_of_mem _ hj))
    have hq : (((l.getD i 0 : Nat) : Int) == (m.getD i 0 : Nat)) = (l.getD i 0 == m.getD i 0) := by
      rw [Bool.eq_iff_iff, beq_iff_eq, beq_iff_eq]; omega
    simp only [Op.eqItems, Sem.run_bind, part_u64 w l i (by omega), part_u64 w m i (by omega), Result.andThen_ok, run_equalIn_int w d 22 .u64 .u64 _ _ Try.underlying22, hq, List.all_cons]
    cases l.getD i 0 == m.getD i 0
    · rfl
    · exact ih
theorem range_all5 {l m : List Nat} (hl : l.length = 5) (hm : m.length = 5) : ((List.range 5).all fun i => l.getD i 0 == m.getD i 0) = decide (l = m) := by
  rw [Bool.eq_iff_iff, List.all_eq_true, decide_eq_true_iff]
  constructor
  · intro h
    apply List.ext_getElem (by omega)
    intro i h1 h2
    have := h i (List.mem_range.2 (by omega))
    simpa [h1, h2] using this
  · rintro rfl i _
    simp
theorem eqArr5 (d : Nat) (w : World) (l m : List Nat) (hl : l.length = 5) (hm : m.length = 5) : (Op.equalIn (d + 2) 27 (.agg (uvals l).toArray) (.agg (uvals m).toArray)).run Try.prog w = .ok (decide (l = m)) w := by
  obtain ⟨i0, hi, _, h1, _⟩ := info_parts u64Info
  rw [run_equalIn_array w (d + 1) (uvals l).toArray (uvals m).toArray Try.underlying27 hi, cells_u64, eqItems_u64 d w l m hl hm _ (fun i h => List.mem_range.1 h), range_all5 hl hm]
theorem eqEl (w : World) (l m : List Nat) (hl : l.length = 5) (hm : m.length = 5) : (Op.equalIn 10000 29 (.agg (uvals l).toArray) (.agg (uvals m).toArray)).run Try.prog w = .ok (decide (l = m)) w := by
  have p1 : (Go.part 27 (uvals l).toArray 0).run Try.prog w = .ok (.agg (uvals l).toArray) w := by
    obtain ⟨a, b, c, d, e, rfl⟩ := five l hl
    kernel_rfl
  have p2 : (Go.part 27 (uvals m).toArray 0).run Try.prog w = .ok (.agg (uvals m).toArray) w := by
    obtain ⟨a, b, c, d, e, rfl⟩ := five m hm
    kernel_rfl
  have hf : (Try.prog.fieldsOf 29).toList.map (fun f => (f.type, f.offset, f.name == "_")) = [(27, 0, false)] := by kernel_rfl
  rw [run_equalIn_struct w 9999 29 _ _ (by kernel_rfl) (by kernel_rfl)]
  generalize (Try.prog.fieldsOf 29).toList = fs at hf
  rcases fs with _ | ⟨f, _ | ⟨g, r⟩⟩
  · cases hf
  · simp only [List.map_cons, List.map_nil, List.cons.injEq, Prod.mk.injEq, and_true, beq_eq_false_iff_ne, ne_eq] at hf
    obtain ⟨h2, h3, h4⟩ := hf
    simp only [Op.eqFields, ne_eq, h4, not_false_eq_true, if_true, h2, h3, Sem.run_bind, p1, p2, Result.andThen_ok, eqArr5 9997 w l m hl hm]
    by_cases e : l = m <;> simp [e]
  · simp at hf
end Go.Proofs.Ytopelehfffjfeaa
