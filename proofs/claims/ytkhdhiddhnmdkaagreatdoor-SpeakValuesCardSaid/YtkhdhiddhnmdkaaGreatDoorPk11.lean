/-
The field's elements as values; carry.
Elements: when their limbs are equal; a limb out of an array.
The field's least number, and what is asked of it: Odd, Zero, Same; Choose, Small.
The field's operations on limbs, and the numbers modulo p that they stand for.
-/
import Derived.ChangeKeysEq
import Derived.Deep.DeepCutAuto
import Derived.Test.YtkhdhiddhnmdkaaGreatDoorPk10
import Derived.Test.YtkhdhiddhnmdkaaGreatDoorPk01
import Derived.Test.YtkhdhiddhnmdkaaGreatDoorPk02
namespace Go.Proofs.YtkhdhiddhnmdkaaGreatDoor
open Go.RowKit

theorem elval_int {k : IntKind} {a b : Int} (h : a = b) : Value.int k a = .int k b := by rw [h]
def uvals (l : List Nat) : List Value := l.map fun d => Value.int .u64 (d : Nat)
theorem uvals_get (l : List Nat) (i : Nat) (h : i < l.length) : (uvals l)[i]? = some (.int .u64 (l.getD i 0 : Nat)) := by simp [uvals, h]
theorem uvals_set (l : List Nat) (i d : Nat) : (uvals l).set i (.int .u64 (d : Nat)) = uvals (l.set i d) := by simp [uvals, List.map_set]
theorem uvals_len (l : List Nat) : (uvals l).length = l.length := by simp [uvals]
/-- an element as a value -/
def ev (l : List Nat) : Value := .agg (uvals l).toArray
/-- v is an element whose number is x modulo p -/
def FE (v : Value) (x : Nat) : Prop := ∃ l, v = ev l ∧ l.length = 5 ∧ (∀ d ∈ l, d < 2 ^ 52) ∧ lv l % pP = x
theorem FE.lt {v : Value} {x : Nat} (h : FE v x) : x < pP := by
  obtain ⟨l, _, _, _, rfl⟩ := h
  exact Nat.mod_lt _ pP_pos
theorem five (l : List Nat) (h : l.length = 5) : ∃ a b c d e, l = [a, b, c, d, e] := by
  match l, h with
  | [a, b, c, d, e], _ => exact ⟨a, b, c, d, e, rfl⟩
def zero5 : List Nat := [0, 0, 0, 0, 0]

theorem Blk.uset {w : World} {b : Nat} {t : TypeId} {l : List Nat} (h : Blk w b t (uvals l)) (i d : Nat) : Blk (w.setCell ⟨b, i, none⟩ (.int .u64 (d : Nat))) b t (uvals (l.set i d)) := by
  rw [← uvals_set]; exact h.set i _
theorem Blk.ucell {w : World} {b : Nat} {t : TypeId} {l : List Nat} (h : Blk w b t (uvals l)) (i : Nat) (hi : i < l.length) : w.cell? ⟨b, i, none⟩ = some (.int .u64 (l.getD i 0 : Nat)) := h.cell i _ (uvals_get l i hi)

theorem and_mask (n : Nat) (h : n < 18446744073709551616) : bits .and .u64 (n : Int) 2251799813685247 = ((n % 2251799813685248 : Nat) : Int) := by
  have h1 := bits_and_u64_nat n 2251799813685247 h (by omega)
  have e : n &&& 2251799813685247 = n % 2251799813685248 := Nat.and_two_pow_sub_one_eq_mod n 51
  rw [e] at h1
  exact h1
/-- the whole element loaded out of its block -/
theorem elem_size : (Tryz.prog.info? 70).map (·.size) = some 5 := by kernel_rfl
theorem zero5_eq : (uvals zero5).toArray = #[.int .u64 0, .int .u64 0, .int .u64 0, .int .u64 0, .int .u64 0] := rfl
theorem crl_set2 (c : Nat) (a : List Nat) (i x : Nat) (h : i < a.length) : ((crl c a i).set i x).set i (crd c a i) = crl c a (i + 1) := by
  rw [List.set_set, crl_set c a i h]
theorem mem_lt {a : List Nat} {B : Nat} (hB : 0 < B) (h : ∀ d ∈ a, d < B) (i : Nat) : a.getD i 0 < B := by
  rcases Nat.lt_or_ge i a.length with hi | hi
  · rw [List.getD_eq_getElem?_getD, List.getElem?_eq_getElem hi]; exact h _ (List.getElem_mem hi)
  · rw [List.getD_eq_getElem?_getD, List.getElem?_eq_none hi]; exact hB
theorem uvals_one (l : List Nat) : ∀ v ∈ uvals l, v.oneCell' = true := by
  intro v hv
  obtain ⟨b, _, rfl⟩ := List.mem_map.1 hv
  rfl
theorem len5 {l : List Nat} (h : l.length = 5) : (uvals l).length = 5 := by rw [uvals_len, h]
set_option maxHeartbeats 1000000 in
set_option maxRecDepth 100000 in
theorem el_carry_ok (a : List Nat) (w : World) (hl : a.length = 5) (ha : ∀ d ∈ a, d < 2 ^ 63) :
    Calls Tryz.prog 72 #[ev a] w fun e w' => e = .returned (ev (carryN a)) ∧ Below w.heap.size w w' := by
  have HL := Lib.hid hl
  have HA := Lib.hid ha
  clear hl ha
  show Calls _ _ #[.agg (uvals a).toArray] _ _
  go_enter Tryz.func72, Tryz.ntmps72
  go_wp2_with fail
  go_loopw [3, 5] (fun vc vi wr => ∃ i : Nat, i ≤ 5 ∧ vi = .int .i64 i ∧ vc = .int .u64 (cst 0 a i : Nat) ∧ Hid (Blk wr w.heap.size 70 (uvals (crl 0 a i))) ∧ Hid (Blk wr (w.heap.size + 1) 70 (uvals zero5)) ∧ Below w.heap.size w wr) (fun _ vi _ => 5 - (intOf vi).toNat)
  case atStart =>
    refine ⟨0, by omega, rfl, rfl, ?_, ?_, ((Below.refl _ _).alloc (Nat.le_refl _) _).alloc (by simp) _⟩
    · rw [crl_zero]; exact Blk.alloc (Blk.new _ _ (uvals a)) _
    · have := Blk.new (w.alloc (.cells (uvals a).toArray 70)) 70 (uvals zero5)
      rw [show (w.alloc (.cells (uvals a).toArray 70)).heap.size = w.heap.size + 1 by simp] at this
      exact this
  case round =>
    obtain ⟨i, hi, rfl, rfl, hb, hz, hB⟩ := hrel
    by_cases hgo : i < 5
    · have c0 := hb.out.ucell i (by rw [crl_len 0 a i (by rw [HL.out]; omega), HL.out]; exact hgo)
      rw [crl_get 0 a i (by rw [HL.out]; exact hgo)] at c0
      have f0 := hb.out.free i
      have hx : a.getD i 0 < 9223372036854775808 := mem_lt (by decide) HA.out i
      have hc : cst 0 a i ≤ 8192 := cst_le 0 a 0 (by omega) HA.out i
      have E1 : Hid (cst 0 a (i + 1) = (a.getD i 0 + cst 0 a i) / 2251799813685248) := rfl
      have E2 : Hid (crd 0 a i = (a.getD i 0 + cst 0 a i) % 2251799813685248) := rfl
      have H1 := Lib.hid ((hb.out.uset i (a.getD i 0 + cst 0 a i)).uset i (crd 0 a i))
      have H2 := Lib.hid (((hz.out.far (show w.heap.size + 1 ≠ w.heap.size by omega) i (.int .u64 (a.getD i 0 + cst 0 a i : Nat)))).far (show w.heap.size + 1 ≠ w.heap.size by omega) i (.int .u64 (crd 0 a i : Nat)))
      have H3 := below_set' (below_set' hB w.heap.size i (.int .u64 (a.getD i 0 + cst 0 a i : Nat)) (Nat.le_refl _)) w.heap.size i (.int .u64 (crd 0 a i : Nat)) (Nat.le_refl _)
      have H4 := Lib.hid (crl_set2 0 a i (a.getD i 0 + cst 0 a i) (by rw [HL.out]; exact hgo))
      have hm := and_mask (a.getD i 0 + cst 0 a i) (by omega)
      generalize a.getD i 0 = x at *
      generalize cst 0 a i = c at *
      rw [← E2.out] at hm
      have hm' : bits .and .u64 ((x : Int) + c) 2251799813685247 = (crd 0 a i : Nat) := by rw [← hm]; simp
      clear hm
      go_wp2_with fail
      have e1 : ((x : Int) + c) / 2251799813685248 = (cst 0 a (i + 1) : Nat) := by rw [E1.out]; omega
      rw [e1]
      go_roundw
      case rel => exact ⟨i + 1, by omega, by go_num, rfl, H4.out ▸ H1.out, H2, H3⟩
      case measure => simp [intOf]; omega
    · obtain rfl : i = 5 := by omega
      have c0 := hb.out.ucell 0 (by rw [crl_len 0 a 5 (by rw [HL.out]; omega), HL.out]; omega)
      have f0 := hb.out.free 0
      have hx : (crl 0 a 5).getD 0 0 < 2251799813685248 := mem_lt (by decide) (crl_full 0 a HL.out).2 0
      have hc : cst 0 a 5 ≤ 8192 := cst_le 0 a 0 (by omega) HA.out 5
      have B1 := Lib.hid (hb.out.uset 0 ((crl 0 a 5).getD 0 0 + cst 0 a 5 * 19))
      have B2 := Lib.hid (hz.out.far (show w.heap.size + 1 ≠ w.heap.size by omega) 0 (.int .u64 ((crl 0 a 5).getD 0 0 + cst 0 a 5 * 19 : Nat)))
      have B3 := below_set' hB w.heap.size 0 (.int .u64 ((crl 0 a 5).getD 0 0 + cst 0 a 5 * 19 : Nat)) (Nat.le_refl _)
      have L5 : Hid ((uvals ((crl 0 a 5).set 0 ((crl 0 a 5).getD 0 0 + cst 0 a 5 * 19))).length = 5) := len5 (carryN_len a HL.out)
      have EQ : Hid ((crl 0 a 5).set 0 ((crl 0 a 5).getD 0 0 + cst 0 a 5 * 19) = carryN a) := rfl
      generalize (crl 0 a 5).getD 0 0 = x at *
      generalize cst 0 a 5 = c at *
      generalize (crl 0 a 5).set 0 (x + c * 19) = L at *
      clear hb hz
      go_wp2_with (first | refine load_blk B1.out Tryz.underlying70 rfl elem_size L5.out rfl rfl rfl ?_ | refine store_blk B2.out elem_size L5.out rfl (uvals_one _) rfl rfl rfl rfl ?_)
      rw [← EQ.out]
      exact ret_blk rfl (Blk.setRow B2.out _) Tryz.underlying70 rfl elem_size L5.out rfl rfl ⟨rfl, below_row B3 _ _ (by omega)⟩
end Go.Proofs.YtkhdhiddhnmdkaaGreatDoor

namespace Go.Proofs.YtkhdhiddhnmdkaaGreatDoor
open Go.RowKit

theorem u64Info : (Tryz.prog.info? 67).map (fun i => (i.zero, i.size, i.bytes)) = some (some (.int .u64 0), 1, 8) := by kernel_rfl
theorem part_u64 (w : World) (l : List Nat) (i : Nat) (h : i < l.length) : (Go.part 67 (uvals l).toArray (i * 1)).run Tryz.prog w = .ok (.int .u64 (l.getD i 0 : Nat)) w :=
  run_part_plain w (by kernel_rfl) (by rw [Nat.mul_one, List.getElem?_toArray]; exact uvals_get l i h)
theorem cells_u64 : Tryz.prog.cellsOf 67 = 1 := by kernel_rfl
theorem idx5 (l : List Nat) (hl : l.length = 5) (i : Nat) (hi : i < 5) (w : World) : (Instr.index 68 (.agg (uvals l).toArray) (.int .i64 (i : Nat))).run Tryz.prog w = .ok (.int .u64 (l.getD i 0 : Nat)) w := by
  obtain ⟨i0, h0, _, h1, _⟩ := info_parts u64Info
  have h2 := part_u64 w l i (by omega)
  rw [Nat.mul_one] at h2
  have h3 := run_sizeOf (P := Tryz.prog) w h0
  rw [cells_u64] at h3
  simp [Instr.index, asIntOf, run_underlying Tryz.underlying68, h3, h2]
  intro h; omega
theorem fld5 (l : List Nat) (hl : l.length = 5) (w : World) : (Instr.field 70 (.agg (uvals l).toArray) 0).run Tryz.prog w = .ok (.agg (uvals l).toArray) w := by
  obtain ⟨a, b, c, d, e, rfl⟩ := five l hl
  kernel_rfl
theorem eqItems_u64 (d : Nat) (w : World) (l m : List Nat) (hl : l.length = 5) (hm : m.length = 5) : ∀ (is : List Nat), (∀ i ∈ is, i < 5) →
    (Op.eqItems (d + 1) 67 1 (uvals l).toArray (uvals m).toArray is).run Tryz.prog w = .ok (is.all fun i => l.getD i 0 == m.getD i 0) w
  | [], _ => by simp [Op.eqItems]
  | i :: is, h => by
    have hi := h i (List.mem_cons_self ..)
    have ih := eqItems_u64 d w l m hl hm is (fun j hj => h j (List.mem_cons_of_mem _ hj))
    have hq : (((l.getD i 0 : Nat) : Int) == (m.getD i 0 : Nat)) = (l.getD i 0 == m.getD i 0) := by
      rw [Bool.eq_iff_iff, beq_iff_eq, beq_iff_eq]; omega
    simp only [Op.eqItems, Sem.run_bind, part_u64 w l i (by omega), part_u64 w m i (by omega), Result.andThen_ok, run_equalIn_int w d 67 .u64 .u64 _ _ Tryz.underlying67, hq, List.all_cons]
    cases l.getD i 0 == m.getD i 0
    · rfl
    · exact ih
theorem range_all5 {l m : List Nat} (hl : l.length = 5) (hm : m.length = 5) : ((List.range 5).all fun i => l.getD i 0 == m.getD i 0) = decide (l = m) := by
  rw [Bool.eq_iff_iff, List.all_eq_true, decide_eq_true_iff]
  constructor
  · intro h
    apply List.ext_getElem (by omega)
    intro i h1 h2
    have := h i (List.mem_range.2 (by omega))
    simpa [h1, h2] using this
  · rintro rfl i _
    simp
theorem eqArr5 (d : Nat) (w : World) (l m : List Nat) (hl : l.length = 5) (hm : m.length = 5) : (Op.equalIn (d + 2) 68 (.agg (uvals l).toArray) (.agg (uvals m).toArray)).run Tryz.prog w = .ok (decide (l = m)) w := by
  obtain ⟨i0, hi, _, h1, _⟩ := info_parts u64Info
  rw [run_equalIn_array w (d + 1) (uvals l).toArray (uvals m).toArray Tryz.underlying68 hi, cells_u64, eqItems_u64 d w l m hl hm _ (fun i h => List.mem_range.1 h), range_all5 hl hm]
theorem eqEl (w : World) (l m : List Nat) (hl : l.length = 5) (hm : m.length = 5) : (Op.equalIn 10000 70 (.agg (uvals l).toArray) (.agg (uvals m).toArray)).run Tryz.prog w = .ok (decide (l = m)) w := by
  have p1 : (Go.part 68 (uvals l).toArray 0).run Tryz.prog w = .ok (.agg (uvals l).toArray) w := by
    obtain ⟨a, b, c, d, e, rfl⟩ := five l hl
    kernel_rfl
  have p2 : (Go.part 68 (uvals m).toArray 0).run Tryz.prog w = .ok (.agg (uvals m).toArray) w := by
    obtain ⟨a, b, c, d, e, rfl⟩ := five m hm
    kernel_rfl
  have hf : (Tryz.prog.fieldsOf 70).toList.map (fun f => (f.type, f.offset, f.name == "_")) = [(68, 0, false)] := by kernel_rfl
  rw [run_equalIn_struct w 9999 70 _ _ (by kernel_rfl) (by kernel_rfl)]
  generalize (Tryz.prog.fieldsOf 70).toList = fs at hf
  rcases fs with _ | ⟨f, _ | ⟨g, r⟩⟩
  · cases hf
  · simp only [List.map_cons, List.map_nil, List.cons.injEq, Prod.mk.injEq, and_true, beq_eq_false_iff_ne, ne_eq] at hf
    obtain ⟨h2, h3, h4⟩ := hf
    simp only [Op.eqFields, ne_eq, h4, not_false_eq_true, if_true, h2, h3, Sem.run_bind, p1, p2, Result.andThen_ok, eqArr5 9997 w l m hl hm]
    by_cases e : l = m <;> simp [e]
  · simp at hf
end Go.Proofs.YtkhdhiddhnmdkaaGreatDoor

namespace Go.Proofs.YtkhdhiddhnmdkaaGreatDoor
open Go.RowKit

theorem arr5_size : (Tryz.prog.info? 68).map (·.size) = some 5 := by kernel_rfl
theorem load_el {ops : Array Oper} {rest : List Oper} {o : Oper} {a : Act} {w : World} {Q : Exit → Act → World → Prop} {b : Nat} {x : Operand} {l : List Nat} {t : TypeId} (hb : Hid (Blk w b t (uvals l))) (hl : Hid (l.length = 5))
    (hgd : o.guard = none) (ho : o.op = .load 70 x) (hx : a.eval x = .pointer (some ⟨b, 0, none⟩)) (h : wpList Tryz.prog ops Q rest (a.put o.dst (.agg (uvals l).toArray)) w) : wpList Tryz.prog ops Q (o :: rest) a w :=
  load_blk hb.out Tryz.underlying70 rfl elem_size (len5 hl.out) hgd ho hx h
theorem load_arr {ops : Array Oper} {rest : List Oper} {o : Oper} {a : Act} {w : World} {Q : Exit → Act → World → Prop} {b : Nat} {x : Operand} {l : List Nat} {t : TypeId} (hb : Hid (Blk w b t (uvals l))) (hl : Hid (l.length = 5))
    (hgd : o.guard = none) (ho : o.op = .load 68 x) (hx : a.eval x = .pointer (some ⟨b, 0, none⟩)) (h : wpList Tryz.prog ops Q rest (a.put o.dst (.agg (uvals l).toArray)) w) : wpList Tryz.prog ops Q (o :: rest) a w :=
  load_blk hb.out Tryz.underlying68 rfl arr5_size (len5 hl.out) hgd ho hx h
theorem store_el {ops : Array Oper} {rest : List Oper} {o : Oper} {a : Act} {w : World} {Q : Exit → Act → World → Prop} {b : Nat} {x y : Operand} {old l : List Nat} {t : TypeId} (hb : Hid (Blk w b t (uvals old))) (hold : Hid (old.length = 5)) (hl : Hid (l.length = 5))
    (hgd : o.guard = none) (ho : o.op = .store 70 x y) (hx : a.eval x = .pointer (some ⟨b, 0, none⟩)) (hy : a.eval y = .agg (uvals l).toArray)
    (h : wpList Tryz.prog ops Q rest (a.put o.dst undef) (w.setRow b (uvals l).toArray)) : wpList Tryz.prog ops Q (o :: rest) a w :=
  store_blk hb.out elem_size (len5 hl.out) (len5 hold.out) (uvals_one _) hgd ho hx hy h
theorem ret_el {fn : Func} {R : Ending → World → Prop} {a : Act} {w : World} {p : Tmp} {b : Nat} {t : TypeId} {l : List Nat} (h : fn.results = #[.cell p 70]) (hb : Blk w b t (uvals l)) (hl : l.length = 5)
    (hp : a.tmps.getD p undef = .pointer (some ⟨b, 0, none⟩)) (hd : a.defers = []) (hR : R (.returned (ev l)) w) : bodyPost Tryz.prog fn R .ret a w :=
  ret_blk h hb Tryz.underlying70 rfl elem_size (len5 hl) hp hd hR
theorem hz5 : Hid (zero5.length = 5) := rfl
set_option maxHeartbeats 2000000 in
set_option maxRecDepth 100000 in
theorem el_least_ok (a : List Nat) (w : World) (hl : a.length = 5) (ha : ∀ d ∈ a, d < 2 ^ 52) :
    Calls Tryz.prog 74 #[ev a] w fun e w' => e = .returned (ev (leastN a)) ∧ Below w.heap.size w w' := by
  have HL := Lib.hid hl
  have HA := Lib.hid ha
  have L1 : Hid ((carryN a).length = 5) := carryN_len a hl
  have L2 : Hid ((carryN (carryN a)).length = 5) := carryN_len _ L1.out
  have H63 : Hid (∀ d ∈ carryN a, d < 2 ^ 63) := fun d hd => by have := carryN_52 a hl (fun d hd => by have := ha d hd; omega) d hd; omega
  have TWO := Lib.hid (carryN_two a hl ha)
  have HLS : Hid (leastN a = crl 0 ((carryN (carryN a)).set 0 ((carryN (carryN a)).getD 0 0 + cst 19 (carryN (carryN a)) 5 * 19)) 5) := rfl
  obtain ⟨s, hs⟩ : ∃ s, s = carryN (carryN a) := ⟨_, rfl⟩
  rw [← hs] at L2 TWO HLS
  have HS := Lib.hid hs
  clear hl ha hs
  show Calls _ _ #[.agg (uvals a).toArray] _ _
  go_enter Tryz.func74, Tryz.ntmps74
  go_upto_region 1 with fail
  refine wp_gen (fun w0 => Hid (Blk w0 w.heap.size 70 (uvals a)) ∧ Hid (Blk w0 (w.heap.size + 1) 70 (uvals zero5)) ∧ Below w.heap.size w w0) ⟨(Blk.new w _ (uvals a)).alloc _, Blk.new2 _ _ _ (uvals zero5), below2 _ _ _⟩ ?_
  rintro w0 ⟨B0, Z0, BB⟩
  go_wp2_with (refine load_el B0 HL rfl rfl rfl ?_)
  refine (el_carry_ok a w0 HL.out (fun d hd => by have := HA.out d hd; omega)).mono ?_
  rintro e w1 ⟨rfl, b1⟩
  unfold ev
  go_wp2_with fail
  refine (el_carry_ok (carryN a) w1 L1.out H63.out).mono ?_
  rintro e w2 ⟨rfl, b2⟩
  rw [← HS.out]
  unfold ev
  have B2 := Lib.hid ((B0.out.below b1 B0.out.lt).below b2 (Nat.lt_of_lt_of_le B0.out.lt b1.size))
  have Z2 := Lib.hid ((Z0.out.below b1 Z0.out.lt).below b2 (Nat.lt_of_lt_of_le Z0.out.lt b1.size))
  have BB2 := (BB.trans (b1.mono BB.size)).trans (b2.mono (Nat.le_trans BB.size b1.size))
  clear b1 b2 B0 Z0 BB
  go_upto_region 2 with (refine store_el B2 HL L2 rfl rfl rfl rfl ?_)
  refine wp_gen (fun w3 => Hid (Blk w3 w.heap.size 70 (uvals s)) ∧ Hid (Blk w3 (w.heap.size + 1) 70 (uvals zero5)) ∧ Below w.heap.size w w3) ⟨Lib.hid (B2.out.setRow _), Lib.hid (Z2.out.farRow (by omega) _), below_row BB2 _ _ (Nat.le_refl _)⟩ ?_
  rintro w3 ⟨B3, Z3, BB3⟩
  clear B2 Z2 BB2
  go_wp2_with (refine load_arr B3 L2 rfl rfl rfl ?_)
  go_loop [3, 12] (fun vc vi => ∃ i : Nat, i ≤ 5 ∧ vi = .int .i64 i ∧ vc = .int .u64 (cst 19 s i : Nat)) (fun _ vi => 5 - (intOf vi).toNat)
  case atStart => exact ⟨0, by omega, rfl, rfl⟩
  case round =>
    obtain ⟨i, hi, rfl, rfl⟩ := hrel
    by_cases hgo : i < 5
    · have hix := idx5 s L2.out i hgo
      have hx : s.getD i 0 < 2251799813685248 := mem_lt (by decide) TWO.out.1 i
      have hc : cst 19 s i ≤ 8192 := cst_le 19 s 0 (by omega) (fun d hd => by have := TWO.out.1 d hd; omega) i
      have E1 : Hid (cst 19 s (i + 1) = (s.getD i 0 + cst 19 s i) / 2251799813685248) := rfl
      generalize s.getD i 0 = x at *
      generalize cst 19 s i = c at *
      go_wp2_with fail
      have e1 : ((x : Int) + c) / 2251799813685248 = (cst 19 s (i + 1) : Nat) := by rw [E1.out]; omega
      rw [e1]
      go_round
      case rel => exact ⟨i + 1, by omega, by go_num, rfl⟩
      case measure => simp [intOf]; omega
    · obtain rfl : i = 5 := by omega
      have c0 := B3.out.ucell 0 (by rw [L2.out]; omega)
      have f0 := B3.out.free 0
      have hx : s.getD 0 0 < 2251799813685248 := mem_lt (by decide) TWO.out.1 0
      have hc : cst 19 s 5 ≤ 8192 := cst_le 19 s 0 (by omega) (fun d hd => by have := TWO.out.1 d hd; omega) 5
      have R4 : Hid (Blk (w3.setCell ⟨w.heap.size, 0, none⟩ (.int .u64 (s.getD 0 0 + cst 19 s 5 * 19 : Nat))) w.heap.size 70 (uvals (s.set 0 (s.getD 0 0 + cst 19 s 5 * 19)))) := B3.out.uset 0 _
      have R5 : Hid (Blk (w3.setCell ⟨w.heap.size, 0, none⟩ (.int .u64 (s.getD 0 0 + cst 19 s 5 * 19 : Nat))) (w.heap.size + 1) 70 (uvals zero5)) := Z3.out.far (by omega) _ _
      have R6 := below_set' BB3 w.heap.size 0 (.int .u64 (s.getD 0 0 + cst 19 s 5 * 19 : Nat)) (Nat.le_refl _)
      have LT : Hid ((s.set 0 (s.getD 0 0 + cst 19 s 5 * 19)).length = 5) := by show _ = _; rw [List.length_set]; exact L2.out
      have H64 : Hid (∀ d ∈ s.set 0 (s.getD 0 0 + cst 19 s 5 * 19), d < 2 ^ 63) := fun d hd => by
        rcases List.mem_or_eq_of_mem_set hd with h1 | h1
        · have := TWO.out.1 d h1; omega
        · omega
      generalize s.set 0 (s.getD 0 0 + cst 19 s 5 * 19) = t at *
      generalize s.getD 0 0 = x at *
      generalize cst 19 s 5 = c at *
      go_upto_region 9 with fail
      refine wp_gen (fun w4 => Hid (Blk w4 w.heap.size 70 (uvals t)) ∧ Hid (Blk w4 (w.heap.size + 1) 70 (uvals zero5)) ∧ Below w.heap.size w w4) ⟨R4, R5, R6⟩ ?_
      rintro w4 ⟨B4, Z4, BB4⟩
      clear R4 R5 R6 B3 Z3 BB3 c0 f0 hx hc TWO HS HA H63 L1
      go_wp2_with fail
      go_loopw [3, 28] (fun vc vi wr => ∃ i : Nat, i ≤ 5 ∧ vi = .int .i64 i ∧ vc = .int .u64 (cst 0 t i : Nat) ∧ Hid (Blk wr w.heap.size 70 (uvals (crl 0 t i))) ∧ Hid (Blk wr (w.heap.size + 1) 70 (uvals zero5)) ∧ Below w.heap.size w wr) (fun _ vi _ => 5 - (intOf vi).toNat)
      case atStart => exact ⟨0, by omega, rfl, rfl, by rw [crl_zero]; exact B4, Z4, BB4⟩
      case round =>
        clear B4 Z4 BB4
        obtain ⟨i, hi, rfl, rfl, hb, hz, hB⟩ := hrel
        by_cases hgo : i < 5
        · have c0 := hb.out.ucell i (by rw [crl_len 0 t i (by rw [LT.out]; omega), LT.out]; exact hgo)
          rw [crl_get 0 t i (by rw [LT.out]; exact hgo)] at c0
          have f0 := hb.out.free i
          have hx : t.getD i 0 < 9223372036854775808 := mem_lt (by decide) H64.out i
          have hc : cst 0 t i ≤ 8192 := cst_le 0 t 0 (by omega) H64.out i
          have E1 : Hid (cst 0 t (i + 1) = (t.getD i 0 + cst 0 t i) / 2251799813685248) := rfl
          have E2 : Hid (crd 0 t i = (t.getD i 0 + cst 0 t i) % 2251799813685248) := rfl
          have H1 := Lib.hid ((hb.out.uset i (t.getD i 0 + cst 0 t i)).uset i (crd 0 t i))
          have H2 := Lib.hid (((hz.out.far (show w.heap.size + 1 ≠ w.heap.size by omega) i (.int .u64 (t.getD i 0 + cst 0 t i : Nat)))).far (show w.heap.size + 1 ≠ w.heap.size by omega) i (.int .u64 (crd 0 t i : Nat)))
          have H3 := below_set' (below_set' hB w.heap.size i (.int .u64 (t.getD i 0 + cst 0 t i : Nat)) (Nat.le_refl _)) w.heap.size i (.int .u64 (crd 0 t i : Nat)) (Nat.le_refl _)
          have H4 := Lib.hid (crl_set2 0 t i (t.getD i 0 + cst 0 t i) (by rw [LT.out]; exact hgo))
          have hm := and_mask (t.getD i 0 + cst 0 t i) (by omega)
          generalize t.getD i 0 = x at *
          generalize cst 0 t i = c at *
          rw [← E2.out] at hm
          have hm' : bits .and .u64 ((x : Int) + c) 2251799813685247 = (crd 0 t i : Nat) := by rw [← hm]; simp
          clear hm
          go_wp2_with fail
          have e1 : ((x : Int) + c) / 2251799813685248 = (cst 0 t (i + 1) : Nat) := by rw [E1.out]; omega
          rw [e1]
          go_roundw
          case rel => exact ⟨i + 1, by omega, by go_num, rfl, H4.out ▸ H1.out, H2, H3⟩
          case measure => simp [intOf]; omega
        · obtain rfl : i = 5 := by omega
          have L5 : Hid ((crl 0 t 5).length = 5) := by show _ = _; rw [crl_len 0 t 5 (by rw [LT.out]; omega)]; exact LT.out
          generalize crl 0 t 5 = r at *
          go_wp2_with (first | refine load_el hb L5 rfl rfl rfl ?_ | refine store_el hz hz5 L5 rfl rfl rfl rfl ?_)
          exact ret_el rfl (hz.out.setRow _) L5.out rfl rfl ⟨by rw [HLS.out], below_row hB _ _ (by omega)⟩
end Go.Proofs.YtkhdhiddhnmdkaaGreatDoor

namespace Go.Proofs.YtkhdhiddhnmdkaaGreatDoor

/-- a is an element whose number is x modulo p -/
structure Lm (a : List Nat) (x : Nat) : Prop where
  len : a.length = 5
  small : ∀ d ∈ a, d < 2 ^ 52
  val : lv a % pP = x
theorem Lm.lt {a : List Nat} {x : Nat} (h : Lm a x) : x < pP := by rw [← h.val]; exact Nat.mod_lt _ pP_pos
theorem Lm.s63 {a : List Nat} {x : Nat} (h : Lm a x) : ∀ d ∈ a, d < 2 ^ 63 := fun d hd => by have := h.small d hd; omega
def addL (a b : List Nat) : List Nat := List.zipWith (· + ·) a b
def addN (a b : List Nat) : List Nat := carryN (addL a b)
theorem addL_len {a b : List Nat} (ha : a.length = 5) (hb : b.length = 5) : (addL a b).length = 5 := by simp [addL, ha, hb]
theorem mem_zip {f : Nat → Nat → Nat} {a b : List Nat} {d : Nat} (h : d ∈ List.zipWith f a b) : ∃ x ∈ a, ∃ y ∈ b, d = f x y := by
  induction a generalizing b with
  | nil => simp at h
  | cons x r ih =>
    cases b with
    | nil => simp at h
    | cons y s =>
      rw [List.zipWith_cons_cons, List.mem_cons] at h
      rcases h with h | h
      · exact ⟨x, by simp, y, by simp, h⟩
      · obtain ⟨x', hx, y', hy, e⟩ := ih h
        exact ⟨x', by simp [hx], y', by simp [hy], e⟩
theorem addL_lt {a b : List Nat} {B C : Nat} (ha : ∀ d ∈ a, d < B) (hb : ∀ d ∈ b, d < C) : ∀ d ∈ addL a b, d < B + C := fun d hd => by
  obtain ⟨x, hx, y, hy, rfl⟩ := mem_zip hd
  have := ha x hx; have := hb y hy; omega
theorem Lm.add {a b : List Nat} {x y : Nat} (ha : Lm a x) (hb : Lm b y) : Lm (addN a b) ((x + y) % pP) := by
  have hl := addL_len ha.len hb.len
  refine ⟨carryN_len _ hl, carryN_52 _ hl (fun d hd => by have := addL_lt ha.small hb.small d hd; omega), ?_⟩
  rw [addN, carryN_mod _ hl, addL, lv_zip _ (fun _ _ => rfl) a b (by rw [ha.len, hb.len]), Nat.add_mod, ha.val, hb.val]
/-- twice p -/
def twoP : List Nat := [4503599627370458, 4503599627370494, 4503599627370494, 4503599627370494, 4503599627370494]
theorem twoP_lv : lv twoP = 2 * pP := by decide
def subL (a b : List Nat) : List Nat := List.zipWith (· - ·) a b
def subN (a b : List Nat) : List Nat := carryN (subL (addL a twoP) (carryN b))
theorem lv_sub : ∀ (a b : List Nat), a.length = b.length → (∀ i, i < a.length → b.getD i 0 ≤ a.getD i 0) → lv (subL a b) + lv b = lv a
  | [], [], _, _ => rfl
  | x :: r, y :: s, hl, h => by
    have h0 := h 0 (by simp)
    have ih := lv_sub r s (by simpa using hl) (fun i hi => by simpa using h (i + 1) (by simpa using hi))
    have e : subL (x :: r) (y :: s) = (x - y) :: subL r s := rfl
    rw [e, lv_cons, lv_cons, lv_cons]
    simp at h0
    omega
/-- a carried element's limbs -/
theorem carry_lim {b : List Nat} (hl : b.length = 5) (hb : ∀ d ∈ b, d < 2 ^ 52) : ∀ d ∈ carryN b, d < 2 ^ 51 + 39 := fun d hd => by
  have := cst_one 0 b (by omega) hb 5
  rcases carryN_lt b hl d hd with h | h <;> omega
theorem sub_ge {a b : List Nat} (ha : a.length = 5) (hl : b.length = 5) (hb : ∀ d ∈ b, d < 2 ^ 52) (i : Nat) (hi : i < 5) : (carryN b).getD i 0 ≤ (addL a twoP).getD i 0 ∧ (carryN b).getD i 0 ≤ 2 ^ 52 := by
  have h1 := carry_lim hl hb
  have hlen := carryN_len b hl
  have h2 : (carryN b).getD i 0 < 2 ^ 51 + 39 := by
    rw [List.getD_eq_getElem?_getD, List.getElem?_eq_getElem (by omega)]; exact h1 _ (List.getElem_mem _)
  have h3 : (addL a twoP).getD i 0 = a.getD i 0 + twoP.getD i 0 := by
    have : i < a.length := by omega
    have : i < twoP.length := by show i < 5; exact hi
    rw [addL, List.getD_eq_getElem?_getD, List.getElem?_zipWith, List.getElem?_eq_getElem (l := a) (by omega), List.getElem?_eq_getElem (l := twoP) (by omega)]
    simp [*]
  have h4 : 4503599627370458 ≤ twoP.getD i 0 := by
    match i, hi with
    | 0, _ => decide
    | 1, _ => decide
    | 2, _ => decide
    | 3, _ => decide
    | 4, _ => decide
  exact ⟨by omega, by omega⟩
theorem Lm.sub {a b : List Nat} {x y : Nat} (ha : Lm a x) (hb : Lm b y) : Lm (subN a b) ((x + (pP - y)) % pP) := by
  have hy := hb.lt
  have hlb := carryN_len b hb.len
  have hla := addL_len ha.len (show twoP.length = 5 from rfl)
  have hl : (subL (addL a twoP) (carryN b)).length = 5 := by simp [subL, hla, hlb]
  have hs : ∀ d ∈ subL (addL a twoP) (carryN b), d < 2 ^ 63 := fun d hd => by
    obtain ⟨u, hu, v, _, rfl⟩ := mem_zip hd
    have : u < 2 ^ 52 + 2 ^ 52 := addL_lt ha.small (fun d hd => by
      simp only [twoP, List.mem_cons, List.not_mem_nil, or_false] at hd
      rcases hd with rfl | rfl | rfl | rfl | rfl <;> decide) u hu
    show u - v < _
    omega
  refine ⟨carryN_len _ hl, carryN_52 _ hl hs, ?_⟩
  have hv := lv_sub (addL a twoP) (carryN b) (by rw [hla, hlb]) (fun i hi => (sub_ge ha.len hb.len hb.small i (by omega)).1)
  have h1 : lv (addL a twoP) = lv a + 2 * pP := by rw [addL, lv_zip _ (fun _ _ => rfl) a twoP (by rw [ha.len]; rfl), twoP_lv]
  rw [h1] at hv
  have h2 := carryN_mod b hb.len
  rw [hb.val] at h2
  rw [subN, carryN_mod _ hl]
  generalize lv (subL (addL a twoP) (carryN b)) = S at *
  generalize lv (carryN b) = Y at *
  have e1 : (S + Y) % pP = x := by rw [hv, Nat.mul_comm, Nat.add_mul_mod_self_left, ha.val]
  have e2 : S % pP = (S + Y + (pP - y)) % pP := by
    have : S + Y + (pP - y) = S + (Y + (pP - y)) := by omega
    have hz : (Y + (pP - y)) % pP = 0 := by rw [← Nat.mod_add_mod, h2, show y + (pP - y) = pP by omega, Nat.mod_self]
    rw [this, Nat.add_mod S, hz, Nat.add_zero, Nat.mod_mod]
  rw [e2, ← Nat.mod_add_mod, e1]
theorem Lm.zero : Lm [0, 0, 0, 0, 0] 0 := ⟨rfl, by decide, by decide⟩
def negN (a : List Nat) : List Nat := subN [0, 0, 0, 0, 0] a
theorem Lm.neg {a : List Nat} {x : Nat} (h : Lm a x) : Lm (negN a) ((pP - x) % pP) := by
  have := Lm.zero.sub h
  rwa [Nat.zero_add] at this
def smallN (n : Nat) : List Nat := [n % 2 ^ 51, n / 2 ^ 51, 0, 0, 0]
theorem Lm.smallN (n : Nat) (h : n < 2 ^ 64) : Lm (smallN n) (n % pP) := by
  refine ⟨rfl, fun d hd => ?_, ?_⟩
  · simp only [Go.Proofs.YtkhdhiddhnmdkaaGreatDoor.smallN, List.mem_cons, List.not_mem_nil, or_false] at hd
    rcases hd with rfl | rfl | rfl | rfl | rfl <;> omega
  · congr 1
    simp only [Go.Proofs.YtkhdhiddhnmdkaaGreatDoor.smallN, lv_cons, lv_nil]
    omega
def ofN (N : Nat) : List Nat := digs 51 5 (N % 2 ^ 255)
theorem Lm.ofN (N : Nat) : Lm (ofN N) (N % 2 ^ 255 % pP) := by
  refine ⟨digs_length _ _ _, fun d hd => by have := digs_lt _ _ _ d hd; omega, ?_⟩
  rw [Go.Proofs.YtkhdhiddhnmdkaaGreatDoor.ofN, lv_digs, Nat.mod_mod]

/-! ### products -/
def mulK (a b : List Nat) (i : Nat) : Nat → List Nat → List Nat
  | 0, T => T
  | k + 1, T => (mulK a b i k T).set (mj i k) ((mulK a b i k T).getD (mj i k) 0 + mf i k * a.getD i 0 * b.getD k 0)
def mulI (a b : List Nat) : Nat → List Nat
  | 0 => [0, 0, 0, 0, 0]
  | i + 1 => mulK a b i 5 (mulI a b i)
def mulF (a b : List Nat) : List Nat := mulN (mulI a b 5)
theorem mulK_inv {a b T : List Nat} {i : Nat} (h : MulInv a b T i 0) (hi : i < 5) (ha : Lm a (lv a % pP)) (hb : Lm b (lv b % pP)) : ∀ k, k ≤ 5 → MulInv a b (mulK a b i k T) i k
  | 0, _ => h
  | k + 1, hk => ((mulK_inv h hi ha hb k (by omega)).step hi (by omega) hb.len ha.small hb.small ha.len).1
theorem mulI_inv {a b : List Nat} (ha : Lm a (lv a % pP)) (hb : Lm b (lv b % pP)) : ∀ i, i ≤ 5 → MulInv a b (mulI a b i) i 0
  | 0, _ => MulInv.start a b
  | i + 1, hi => (mulK_inv (mulI_inv ha hb i (by omega)) (by omega) ha hb 5 (Nat.le_refl _)).row (by rw [ha.len]; omega) hb.len
theorem Lm.own {a : List Nat} {x : Nat} (h : Lm a x) : Lm a (lv a % pP) := ⟨h.len, h.small, rfl⟩
theorem Lm.mul {a b : List Nat} {x y : Nat} (ha : Lm a x) (hb : Lm b y) : Lm (mulF a b) (x * y % pP) := by
  obtain ⟨h1, h2, h3, _⟩ := mulN_ok a b (mulI a b 5) (mulI_inv ha.own hb.own 5 (Nat.le_refl _)) ha.len
  refine ⟨h1, h2, ?_⟩
  rw [mulF, h3, Nat.mul_mod, ha.val, hb.val]

/-! ### powers -/
/-- behind the n highest of 255 bits of E -/
def pwN (a : List Nat) (E : Nat) : Nat → List Nat
  | 0 => smallN 1
  | n + 1 => if E / 2 ^ (254 - n) % 2 = 1 then mulF (mulF (pwN a E n) (pwN a E n)) a else mulF (pwN a E n) (pwN a E n)
theorem Lm.pow {a : List Nat} {x : Nat} (h : Lm a x) (E : Nat) (hE : E < 2 ^ 255) : ∀ n, n ≤ 255 → Lm (pwN a E n) (x ^ (E / 2 ^ (255 - n)) % pP)
  | 0, _ => by
    have e : E / 2 ^ (255 - 0) = 0 := Nat.div_eq_of_lt hE
    rw [e, Nat.pow_zero]
    exact Lm.smallN 1 (by decide)
  | n + 1, hn => by
    have ih := h.pow E hE n (by omega)
    have hs := ih.mul ih
    have e : x ^ (E / 2 ^ (254 - n)) = x ^ (E / 2 ^ (255 - n)) * x ^ (E / 2 ^ (255 - n)) * x ^ (E / 2 ^ (254 - n) % 2) := by
      have := pow_bit x E (254 - n)
      rwa [show 254 - n + 1 = 255 - n by omega] at this
    rw [show 255 - (n + 1) = 254 - n by omega, e]
    rw [← Nat.mul_mod] at hs
    unfold pwN
    split
    · rename_i h1
      rw [h1, Nat.pow_one]
      have := hs.mul h
      rwa [Nat.mod_mul_mod] at this
    · rename_i h1
      rw [show E / 2 ^ (254 - n) % 2 = 0 by omega, Nat.pow_zero, Nat.mul_one]
      exact hs

/-! ### what is asked -/
theorem Lm.least {a : List Nat} {x : Nat} (h : Lm a x) : (leastN a).length = 5 ∧ (∀ d ∈ leastN a, d < 2 ^ 51) ∧ lv (leastN a) = x := by
  obtain ⟨h1, h2, h3⟩ := leastN_ok a h.len h.small
  exact ⟨h1, h2, by rw [h3, h.val]⟩
def oddN (a : List Nat) : Bool := decide ((leastN a).getD 0 0 % 2 = 1)
theorem Lm.odd {a : List Nat} {x : Nat} (h : Lm a x) : oddN a = decide (x % 2 = 1) := by
  obtain ⟨h1, _, h3⟩ := h.least
  rw [← h3]
  unfold oddN
  match leastN a, h1 with
  | d :: r, _ =>
    simp only [List.getD_cons_zero, lv_cons]
    have : (d + 2 ^ 51 * lv r) % 2 = d % 2 := by omega
    exact decide_eq_decide.2 (by rw [this])
def sameN (a b : List Nat) : Bool := decide (leastN a = leastN b)
theorem Lm.same {a b : List Nat} {x y : Nat} (ha : Lm a x) (hb : Lm b y) : sameN a b = decide (x = y) := by
  obtain ⟨h1, h2, h3⟩ := ha.least
  obtain ⟨g1, g2, g3⟩ := hb.least
  unfold sameN
  rw [Bool.eq_iff_iff, decide_eq_true_iff, decide_eq_true_iff]
  constructor
  · intro e; rw [← h3, ← g3, e]
  · intro e; exact lv_inj _ _ (by rw [h1, g1]) h2 g2 (by rw [h3, g3, e])
def zeroN (a : List Nat) : Bool := decide (leastN a = [0, 0, 0, 0, 0])
theorem Lm.zeroN {a : List Nat} {x : Nat} (ha : Lm a x) : zeroN a = decide (x = 0) := by
  obtain ⟨h1, h2, h3⟩ := ha.least
  unfold Go.Proofs.YtkhdhiddhnmdkaaGreatDoor.zeroN
  rw [Bool.eq_iff_iff, decide_eq_true_iff, decide_eq_true_iff]
  constructor
  · intro e; rw [← h3, e]; rfl
  · intro e; exact lv_inj _ _ (by rw [h1]; rfl) h2 (by decide) (by rw [h3, e]; rfl)
/-- p - 2 and its like -/
def expN (less : Nat) : Nat := 2 ^ 255 - less
def invN (a : List Nat) : List Nat := pwN a (expN 21) 255
def evenN (a : List Nat) : List Nat := if oddN a then negN a else a
def m1N : List Nat := evenN (pwN (smallN 2) (expN 20) 253)
def v3N (v : List Nat) : List Nat := mulF (mulF v v) v
def v7N (v : List Nat) : List Nat := mulF (mulF (v3N v) (v3N v)) v
def candN (u v : List Nat) : List Nat := mulF (mulF u (v3N v)) (pwN (mulF u (v7N v)) (expN 24) 252)
def gotN (u v : List Nat) : List Nat := mulF (mulF (candN u v) (candN u v)) v
def rootN (u v : List Nat) : List Nat × Bool :=
  if sameN (gotN u v) u then (evenN (candN u v), true)
  else if sameN (gotN u v) (negN u) then (evenN (mulF (candN u v) m1N), true)
  else ([0, 0, 0, 0, 0], false)
theorem Lm.even {a : List Nat} {x : Nat} (h : Lm a x) : Lm (evenN a) (if x % 2 = 1 then (pP - x) % pP else x) := by
  unfold evenN
  rw [h.odd]
  by_cases e : x % 2 = 1
  · simp only [e, decide_true, if_true]; exact h.neg
  · simp only [e, decide_false, if_false, Bool.false_eq_true]; exact h
end Go.Proofs.YtkhdhiddhnmdkaaGreatDoor
