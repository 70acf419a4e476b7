/-
The field's elements as values; carry.
-/
import Derived.Test.YtopelehfffjfeaaFBits
import Derived.Test.YtopelehfffjfeaaOwn
import Derived.Test.YtopelehfffjfeaaBlks
namespace Go.Proofs.Ytopelehfffjfeaa
open Go.RowKit

theorem elval_int {k : IntKind} {a b : Int} (h : a = b) : Value.int k a = .int k b := by rw [h]
def uvals (l : List Nat) : List Value := l.map fun d => Value.int .u64 (d : Nat)
theorem uvals_get (l : List Nat) (i : Nat) (h : i < l.length) : (uvals l)[i]? = some (.int .u64 (l.getD i 0 : Nat)) := by simp [uvals, h]
theorem uvals_set (l : List Nat) (i d : Nat) : (uvals l).set i (.int .u64 (d : Nat)) = uvals (l.set i d) := by simp [uvals, List.map_set]
theorem uvals_len (l : List Nat) : (uvals l).length = l.length := by simp [uvals]
/-- an element as a value -/
def ev (l : List Nat) : Value := .agg (uvals l).toArray
/-- v is an element whose number is x modulo p -/
def FE (v : Value) (x : Nat) : Prop := ∃ l, v = ev l ∧ l.length = 5 ∧ (∀ d ∈ l, d < 2 ^ 52) ∧ lv l % pP = x
theorem FE.lt {v : Value} {x : Nat} (h : FE v x) : x < pP := by
  obtain ⟨l, _, _, _, rfl⟩ := h
  exact Nat.mod_lt _ pP_pos
theorem five (l : List Nat) (h : l.length = 5) : ∃ a b c d e, l = [a, b, c, d, e] := by
  match l, h with
  | [a, b, c, d, e], _ => exact ⟨a, b, c, d, e, rfl⟩
def zero5 : List Nat := [0, 0, 0, 0, 0]

theorem Blk.uset {w : World} {b : Nat} {t : TypeId} {l : List Nat} (h : Blk w b t (uvals l)) (i d : Nat) : Blk (w.setCell ⟨b, i, none⟩ (.int .u64 (d : Nat))) b t (uvals (l.set i d)) := by
  rw [← uvals_set]; exact h.set i _
theorem Blk.ucell {w : World} {b : Nat} {t : TypeId} {l : List Nat} (h : Blk w b t (uvals l)) (i : Nat) (hi : i < l.length) : w.cell? ⟨b, i, none⟩ = some (.int .u64 (l.getD i 0 : Nat)) := h.cell i _ (uvals_get l i hi)

theorem and_mask (n : Nat) (h : n < 18446744073709551616) : bits .and .u64 (n : Int) 2251799813685247 = ((n % 2251799813685248 : Nat) : Int) := by
  have h1 := bits_and_u64_nat n 2251799813685247 h (by omega)
  have e : n &&& 2251799813685247 = n % 2251799813685248 := Nat.and_two_pow_sub_one_eq_mod n 51
  rw [e] at h1
  exact h1
/-- the whole element loaded out of its block -/
theorem elem_size : (Try.prog.info? 29).map (·.size) = some 5 := by kernel_rfl
theorem zero5_eq : (uvals zero5).toArray = #[.int .u64 0, .int .u64 0, .int .u64 0, .int .u64 0, .int .u64 0] := rfl
theorem crl_set2 (c : Nat) (a : List Nat) (i x : Nat) (h : i < a.length) : ((crl c a i).set i x).set i (crd c a i) = crl c a (i + 1) := by
  rw [List.set_set, crl_set c a i h]
theorem mem_lt {a : List Nat} {B : Nat} (hB : 0 < B) (h : ∀ d ∈ a, d < B) (i : Nat) : a.getD i 0 < B := by
  rcases Nat.lt_or_ge i a.length with hi | hi
  · rw [List.getD_eq_getElem?_getD, List.getElem?_eq_getElem hi]; exact h _ (List.getElem_mem hi)
  · rw [List.getD_eq_getElem?_getD, List.getElem?_eq_none hi]; exact hB
theorem uvals_one (l : List Nat) : ∀ v ∈ uvals l, v.oneCell' = true := by
  intro v hv
  obtain ⟨b, _, rfl⟩ := List.mem_map.1 hv
  rfl
theorem len5 {l : List Nat} (h : l.length = 5) : (uvals l).length = 5 := by rw [uvals_len, h]
set_option maxHeartbeats 1000000 in
theorem el_carry_ok (a : List Nat) (w : World) (hl : a.length = 5) (ha : ∀ d ∈ a, d < 2 ^ 63) :
    Calls Try.prog 57 #[ev a] w fun e w' => e = .returned (ev (carryN a)) ∧ Below w.heap.size w w' := by
  have HL := Lib.hid hl
  have HA := Lib.hid ha
  clear hl ha
  show Calls _ _ #[.agg (uvals a).toArray] _ _
  go_enter Try.func57, Try.ntmps57
  go_wp2_with fail
  go_loopw [3, 5] (fun vc vi wr => ∃ i : Nat, i ≤ 5 ∧ vi = .int .i64 i ∧ vc = .int .u64 (cst 0 a i : Nat) ∧ Hid (Blk wr w.heap.size 29 (uvals (crl 0 a i))) ∧ Hid (Blk wr (w.heap.size + 1) 29 (uvals zero5)) ∧ Below w.heap.size w wr) (fun _ vi _ => 5 - (intOf vi).toNat)
  case atStart =>
    refine ⟨0, by omega, rfl, rfl, ?_, ?_, ((Below.refl _ _).alloc (Nat.le_refl _) _).alloc (by simp) _⟩
    · rw [crl_zero]; exact Blk.alloc (Blk.new _ _ (uvals a)) _
    · have := Blk.new (w.alloc (.cells (uvals a).toArray 29)) 29 (uvals zero5)
      rw [show (w.alloc (.cells (uvals a).toArray 29)).heap.size = w.heap.size + 1 by simp] at this
      exact this
  case round =>
    obtain ⟨i, hi, rfl, rfl, hb, hz, hB⟩ := hrel
    by_cases hgo : i < 5
    · have c0 := hb.out.ucell i (by rw [crl_len 0 a i (by rw [HL.out]; omega), HL.out]; exact hgo)
      rw [crl_get 0 a i (by rw [HL.out]; exact hgo)] at c0
      have f0 := hb.out.free i
      have hx : a.getD i 0 < 9223372036854775808 := mem_lt (by decide) HA.out i
      have hc : cst 0 a i ≤ 8192 := cst_le 0 a 0 (by omega) HA.out i
      have E1 : Hid (cst 0 a (i + 1) = (a.getD i 0 + cst 0 a i) / 2251799813685248) := rfl
      have E2 : Hid (crd 0 a i = (a.getD i 0 + cst 0 a i) % 2251799813685248) := rfl
      have H1 := Lib.hid ((hb.out.uset i (a.getD i 0 + cst 0 a i)).uset i (crd 0 a i))
      have H2 := Lib.hid (((hz.out.far (show w.heap.size + 1 ≠ w.heap.size by omega) i (.int .u64 (a.getD i 0 + cst 0 a i : Nat)))).far (show w.heap.size + 1 ≠ w.heap.size by omega) i (.int .u64 (crd 0 a i : Nat)))
      have H3 := below_set' (below_set' hB w.heap.size i (.int .u64 (a.getD i 0 + cst 0 a i : Nat)) (Nat.le_refl _)) w.heap.size i (.int .u64 (crd 0 a i : Nat)) (Nat.le_refl _)
      have H4 := Lib.hid (crl_set2 0 a i (a.getD i 0 + cst 0 a i) (by rw [HL.out]; exact hgo))
      have hm := and_mask (a.getD i 0 + cst 0 a i) (by omega)
      generalize a.getD i 0 = x at *
      generalize cst 0 a i = c at *
      rw [← E2.out] at hm
      have hm' : bits .and .u64 ((x : Int) + c) 2251799813685247 = (crd 0 a i : Nat) := by rw [← hm]; simp
      clear hm
      go_wp2_with fail
      have e1 : ((x : Int) + c) / 2251799813685248 = (cst 0 a (i + 1) : Nat) := by rw [E1.out]; omega
      rw [e1]
      go_roundw
      case rel => exact ⟨i + 1, by omega, by go_num, rfl, H4.out ▸ H1.out, H2, H3⟩
      case measure => simp [intOf]; omega
    · obtain rfl : i = 5 := by omega
      have c0 := hb.out.ucell 0 (by rw [crl_len 0 a 5 (by rw [HL.out]; omega), HL.out]; omega)
      have f0 := hb.out.free 0
      have hx : (crl 0 a 5).getD 0 0 < 2251799813685248 := mem_lt (by decide) (crl_full 0 a HL.out).2 0
      have hc : cst 0 a 5 ≤ 8192 := cst_le 0 a 0 (by omega) HA.out 5
      have B1 := Lib.hid (hb.out.uset 0 ((crl 0 a 5).getD 0 0 + cst 0 a 5 * 19))
      have B2 := Lib.hid (hz.out.far (show w.heap.size + 1 ≠ w.heap.size by omega) 0 (.int .u64 ((crl 0 a 5).getD 0 0 + cst 0 a 5 * 19 : Nat)))
      have B3 := below_set' hB w.heap.size 0 (.int .u64 ((crl 0 a 5).getD 0 0 + cst 0 a 5 * 19 : Nat)) (Nat.le_refl _)
      have L5 : Hid ((uvals ((crl 0 a 5).set 0 ((crl 0 a 5).getD 0 0 + cst 0 a 5 * 19))).length = 5) := len5 (carryN_len a HL.out)
      have EQ : Hid ((crl 0 a 5).set 0 ((crl 0 a 5).getD 0 0 + cst 0 a 5 * 19) = carryN a) := rfl
      generalize (crl 0 a 5).getD 0 0 = x at *
      generalize cst 0 a 5 = c at *
      generalize (crl 0 a 5).set 0 (x + c * 19) = L at *
      clear hb hz
      go_wp2_with (first | refine load_blk B1.out Try.underlying29 rfl elem_size L5.out rfl rfl rfl ?_ | refine store_blk B2.out elem_size L5.out rfl (uvals_one _) rfl rfl rfl rfl ?_)
      rw [← EQ.out]
      exact ret_blk rfl (Blk.setRow B2.out _) Try.underlying29 rfl elem_size L5.out rfl rfl ⟨rfl, below_row B3 _ _ (by omega)⟩
end Go.Proofs.Ytopelehfffjfeaa
