/-
The contracts of scalar's functions.
-/
import Derived.Test.YtomdldjamdkhoaaDoorScalarW
namespace Go.Proofs.YtomdldjamdkhoaaDoor
open Go.RowKit

theorem Blk.setRow {w : World} {b : Nat} {t : TypeId} {cs : List Value} (h : Blk w b t cs) (new : List Value) : Blk (w.setRow b new.toArray) b t new := setRow_heap w b _ _ t _ h
theorem Blk.farRow {w : World} {b c : Nat} {t : TypeId} {cs : List Value} (h : Blk w b t cs) (hne : b ≠ c) (new : Array Value) : Blk (w.setRow c new) b t cs := by
  show (w.setRow c new).heap[b]? = _
  rw [setRow_other _ _ _ _ hne]; exact h
theorem below_row {B : Nat} {w0 w : World} (h : Below B w0 w) (b : Nat) (v : Array Value) (hb : B ≤ b) : Below B w0 (w.setRow b v) :=
  h.trans ⟨rfl, rfl, rfl, by simp, fun k hk => setRow_other _ _ _ _ (by omega)⟩
/-- a whole array loaded, stored, returned -/
theorem load_blk {P : Program} {ops : Array Oper} {rest : List Oper} {o : Oper} {a : Act} {w : World} {Q : Exit → Act → World → Prop} {b ty n : Nat} {e : TypeId} {x : Operand} {cs : List Value} {t : TypeId} (hb : Blk w b t cs)
    (hu : P.underlying ty = some (.array n e)) (hi : (P.info? ty).map (·.size) = some cs.length) (hgd : o.guard = none) (ho : o.op = .load ty x) (hx : a.eval x = .pointer (some ⟨b, 0, none⟩))
    (h : wpList P ops Q rest (a.put o.dst (.agg cs.toArray)) w) : wpList P ops Q (o :: rest) a w :=
  wpList_load_row hgd ty x ho b hx t cs.toArray (0, 0) _ hb hu rfl (by rw [hi]; simp) h
theorem store_blk {P : Program} {ops : Array Oper} {rest : List Oper} {o : Oper} {a : Act} {w : World} {Q : Exit → Act → World → Prop} {b ty n : Nat} {x y : Operand} {old cs : List Value} {t : TypeId} (hb : Blk w b t old)
    (hi : (P.info? ty).map (·.size) = some n) (hn : cs.length = n) (hl : old.length = n) (h1 : ∀ v ∈ cs, v.oneCell' = true) (hgd : o.guard = none) (ho : o.op = .store ty x y) (hx : a.eval x = .pointer (some ⟨b, 0, none⟩)) (hy : a.eval y = .agg cs.toArray)
    (h : wpList P ops Q rest (a.put o.dst undef) (w.setRow b cs.toArray)) : wpList P ops Q (o :: rest) a w :=
  wpList_store_row hgd ty x y ho b cs.toArray hx hy t old.toArray hb (by rw [hi]; simp [hn]) (by simp; omega) (by simpa using h1) h
theorem ret_blk {P : Program} {fn : Func} {R : Ending → World → Prop} {a : Act} {w : World} {p : Tmp} {ty n : Nat} {e : TypeId} {b : Nat} {t : TypeId} {cs : List Value} (h : fn.results = #[.cell p ty]) (hb : Blk w b t cs)
    (hu : P.underlying ty = some (.array n e)) (hi : (P.info? ty).map (·.size) = some cs.length) (hp : a.tmps.getD p undef = .pointer (some ⟨b, 0, none⟩)) (hd : a.defers = []) (hR : R (.returned (.agg cs.toArray)) w) : bodyPost P fn R .ret a w :=
  bodyPost_ret (results_cell_row h a.tmps w b t cs.toArray (0, 0) _ hp hb hu rfl (by rw [hi]; simp)) hd hR
theorem bvals_one (l : List UInt8) : ∀ v ∈ bvals l, v.oneCell' = true := by
  intro v hv
  obtain ⟨b, _, rfl⟩ := List.mem_map.1 hv
  rfl
theorem b32_size : (Tryd.prog.info? 24).map (·.size) = some 32 := by kernel_rfl

/-- a row of 32 bytes, filled as far as i -/
def part (N i : Nat) : List Value := bvals (leBytes N i ++ List.replicate (32 - i) 0)
theorem part_zero (N : Nat) : part N 0 = List.replicate 32 (.int .u8 0) := by simp [part, leBytes, bvals]
theorem part_end (N : Nat) : part N 32 = bvals (leBytes N 32) := by simp [part]
theorem part_length (N i : Nat) (h : i ≤ 32) : (part N i).length = 32 := by simp [part, bvals, leBytes]; omega
theorem part_set (N i : Nat) (h : i < 32) : (part N i).set i (.int .u8 ((N / 256 ^ i % 256 : Nat) : Nat)) = part N (i + 1) := by
  unfold part
  rw [leBytes_succ, show 32 - i = (32 - (i + 1)) + 1 from by omega, List.replicate_succ]
  simp only [bvals, List.map_append, List.map_cons, List.append_assoc, List.cons_append, List.nil_append]
  rw [List.set_append_right _ _ (by simp [leBytes])]
  simp [leBytes]

theorem part_get (N i : Nat) (h : i < 32) : (part N i)[i]? = some (.int .u8 0) := by
  unfold part bvals
  rw [show 32 - i = (32 - (i + 1)) + 1 from by omega, List.replicate_succ, List.map_append, List.getElem?_append_right (by simp [leBytes])]
  simp [leBytes]

set_option maxHeartbeats 4000000 in
set_option maxRecDepth 100000 in
theorem nbytes_ok (l : List Nat) (b : Nat) (w : World) (h : Nm w b l) :
    Calls Tryd.prog 19 #[.pointer (some ⟨b, 0, none⟩)] w fun e w' => e = .returned (ag (leBytes (wv l) 32)) ∧ Below w.heap.size w w' := by
  have H := Lib.hid h
  clear h
  go_enter Tryd.func19, Tryd.ntmps19
  go_wp2
  go_loopw [5] (fun vi wr => ∃ (i : Nat), vi = .int .i64 i ∧ i ≤ 32 ∧ Hid (Blk wr (w.heap.size + 1) 24 (part (wv l) i)) ∧ Hid (Blk wr w.heap.size 24 (List.replicate 32 (.int .u8 0))) ∧ Below w.heap.size w wr) (fun vi _ => 32 - (intOf vi).toNat)
  case atStart =>
    refine ⟨0, rfl, by omega, ?_, ?_, ((Below.refl _ _).alloc (Nat.le_refl _) _).alloc (by simp) _⟩
    · rw [part_zero]
      have := Blk.new (w.alloc (.cells #[.int .u8 0, .int .u8 0, .int .u8 0, .int .u8 0, .int .u8 0, .int .u8 0, .int .u8 0, .int .u8 0, .int .u8 0, .int .u8 0, .int .u8 0, .int .u8 0, .int .u8 0, .int .u8 0, .int .u8 0, .int .u8 0, .int .u8 0, .int .u8 0, .int .u8 0, .int .u8 0, .int .u8 0, .int .u8 0, .int .u8 0, .int .u8 0, .int .u8 0, .int .u8 0, .int .u8 0, .int .u8 0, .int .u8 0, .int .u8 0, .int .u8 0, .int .u8 0] 24)) 24 (List.replicate 32 (.int .u8 0))
      show Blk _ _ _ _
      simpa using this
    · exact Blk.alloc (Blk.new _ _ (List.replicate 32 (.int .u8 0))) _
  case round =>
    obtain ⟨i, rfl, hi, hb3, hb2, hBw⟩ := hrel
    by_cases hgo : i < 32
    · have hbl : b < w.heap.size := H.out.2.2.lt
      have ka : wr.cell? ⟨b, i / 4, none⟩ = some (.int .u32 (l.getD (i / 4) 0 : Nat)) := by
        rw [hBw.cell (p := ⟨b, i / 4, none⟩) hbl]
        exact Blk.cell H.out.2.2 (i / 4) _ (wvals_get l (i / 4) (by rw [H.out.2.1]; omega))
      have hx := H.out.1.getD (i / 4)
      have kf := Blk.free hb3.out i
      have BY := Lib.hid (wv_byte H.out.1 i)
      have kc := Blk.cell hb3.out i _ (part_get (wv l) i hgo)
      have hst3 := Lib.hid (Blk.set hb3.out i (.int .u8 ((wv l / 256 ^ i % 256 : Nat) : Nat)))
      have hst2 := Lib.hid (Blk.far hb2.out (show w.heap.size ≠ w.heap.size + 1 by omega) i (.int .u8 ((wv l / 256 ^ i % 256 : Nat) : Nat)))
      have PS := Lib.hid (part_set (wv l) i hgo)
      have hB2 := below_set' hBw (w.heap.size + 1) i (.int .u8 ((wv l / 256 ^ i % 256 : Nat) : Nat)) (by omega)
      generalize l.getD (i / 4) 0 = x at *
      go_wp2
      have e : ((x : Int) / 2 ^ (8 * (i % 4)) % 256) = ((wv l / 256 ^ i % 256 : Nat) : Int) := by rw [← BY.out]; simp
      rw [e]
      go_roundw
      case rel => exact ⟨i + 1, by go_num, by omega, PS.out ▸ hst3.out, hst2, hB2⟩
      case measure => simp [intOf]; omega
    · have hi9 : i = 32 := by omega
      subst hi9
      have hb3' := hb3.out
      rw [part_end] at hb3'
      have H3 := Lib.hid hb3'
      have hl32 : (bvals (leBytes (wv l) 32)).length = 32 := by simp [bvals, leBytes]
      have HL := Lib.hid hl32
      clear hb3 hb3' hl32
      go_wp2_with (first | refine load_blk H3.out Tryd.underlying24 (by rw [HL.out]; exact b32_size) rfl rfl rfl ?_ | refine store_blk hb2.out b32_size HL.out (by simp) (bvals_one _) rfl rfl rfl rfl ?_)
      exact ret_blk rfl (Blk.setRow hb2.out _) Tryd.underlying24 (by rw [HL.out]; exact b32_size) rfl rfl ⟨rfl, below_row hBw _ _ (Nat.le_refl _)⟩
end Go.Proofs.YtomdldjamdkhoaaDoor
