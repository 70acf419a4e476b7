/-
The law's key: its text.
-/
import Derived.Test.YteleedcpepifjaaDoorAesAw
namespace Go.Proofs.YteleedcpepifjaaDoor
open Go.RowKit AesP
set_option maxRecDepth 100000
/-- a slice of the bytes that a block begins with -/
theorem Blk.slx {w : World} {b : Nat} {t : TypeId} {l : List Nat} {xs : List Value} (h : Blk w b t (b8 l ++ xs)) {m : Nat} (hm : m ≤ l.length) (hl : l.length ≤ maxLen) : Sg w 1 (.slice (some ⟨b, 0, none⟩) m l.length) m (b8 (l.take m)) := by
  have hc : ∀ j, j < l.length → w.cell? ⟨b, j, none⟩ = some (.int .u8 (l.getD j 0 : Nat)) := fun j hj => h.cell j _ (by rw [List.getElem?_append_left (by rw [b8_len]; exact hj)]; exact b8_get l j hj)
  refine ⟨by rw [b8_len, List.length_take]; omega, _, _, rfl, hm, hl, .inr ⟨b, 0, rfl, h.lt, fun j hj => ?_, fun j hj => ?_⟩⟩
  · rw [Nat.zero_add, hc j (by omega)]
    exact ⟨rfl, h.free _⟩
  · have hj' : j < m := by omega
    rw [Nat.zero_add, hc j (by omega), b8_get _ j (by rw [List.length_take]; omega), List.getD_eq_getElem?_getD, List.getD_eq_getElem?_getD, List.getElem?_take_of_lt hj']
theorem take_by {l : List Nat} (h : By l) (n : Nat) : By (l.take n) := fun x hx => h x (List.mem_of_mem_take hx)
/-- the law's key, as a value -/
def kv (l : List Nat) (x : Int) : Value := .agg (b8 l ++ [Value.int .i64 x]).toArray
def ks (x : Int) : Nat := if x = 0 then 16 else if x = 1 then 24 else 32
theorem ks_of (x : Int) : ks x = 16 ∨ ks x = 24 ∨ ks x = 32 := by unfold ks; split <;> (try split) <;> simp
set_option maxHeartbeats 2000000 in
theorem text_ok (l : List Nat) (x : Int) (hl : l.length = 32) (hb : By l) (w : World) : Calls Tryd.prog 10 #[kv l x] w fun e w' => e = .returned (.string (bsL (l.take (ks x)))) ∧ Below w.heap.size w w' := by
  have hB : Blk (w.alloc (.cells (b8 l ++ [Value.int .i64 x]).toArray 24)) w.heap.size 24 (b8 l ++ [Value.int .i64 x]) := Blk.new w _ _
  have cx := hB.cell 32 (.int .i64 x) (by rw [List.getElem?_append_right (by rw [b8_len, hl]; exact Nat.le_refl _), b8_len, hl]; rfl)
  have h16 := run_str8 (take_by hb 16) (hB.slx (m := 16) (by omega) (by rw [hl]; decide))
  have h24 := run_str8 (take_by hb 24) (hB.slx (m := 24) (by omega) (by rw [hl]; decide))
  have h32 := run_str8 (take_by hb 32) (hB.slx (m := 32) (by omega) (by rw [hl]; decide))
  rw [hl] at h16 h24 h32
  have HB := Lib.hid (below1 w (.cells (b8 l ++ [Value.int .i64 x]).toArray 24))
  have hsz : ((b8 l ++ [Value.int .i64 x]).toArray : Array Value).size = 33 := by simp [b8_len, hl]
  unfold kv
  generalize (b8 l ++ [Value.int .i64 x]).toArray = V at *
  clear hB hl hb
  go_enter Tryd.func10, Tryd.ntmps10
  by_cases h0 : x = 0
  · have e0 : ks x = 16 := by unfold ks; rw [if_pos h0]
    have E0 := Lib.hid e0
    have hd : (x == 0) = true := by rw [beq_iff_eq]; exact h0
    clear e0 h0
    go_wp2_with fail
    go_ret
    exact ⟨by rw [E0.out]; rfl, HB.out⟩
  · by_cases h1 : x = 1
    · have e0 : ks x = 24 := by unfold ks; rw [if_neg h0, if_pos h1]
      have E0 := Lib.hid e0
      have hd : (x == 0) = false := by rw [beq_eq_false_iff_ne]; exact h0
      have hd1 : (x == 1) = true := by rw [beq_iff_eq]; exact h1
      clear e0 h0 h1
      go_wp2_with fail
      go_ret
      exact ⟨by rw [E0.out]; rfl, HB.out⟩
    · have e0 : ks x = 32 := by unfold ks; rw [if_neg h0, if_neg h1]
      have E0 := Lib.hid e0
      have hd : (x == 0) = false := by rw [beq_eq_false_iff_ne]; exact h0
      have hd1 : (x == 1) = false := by rw [beq_eq_false_iff_ne]; exact h1
      clear e0 h0 h1
      go_wp2_with fail
      go_ret
      exact ⟨by rw [E0.out]; rfl, HB.out⟩
theorem key_size : (Tryd.prog.info? 24).map (·.size) = some 33 := by kernel_rfl
def kn (x : Int) : Nat := ks x / 4
theorem kn_of (x : Int) : kn x = 4 ∨ kn x = 6 ∨ kn x = 8 := by unfold kn; rcases ks_of x with h | h | h <;> rw [h] <;> simp
theorem ks_kn (x : Int) : ks x = 4 * kn x := by unfold kn; rcases ks_of x with h | h | h <;> rw [h]
def kW (l : List Nat) (x : Int) : List Nat := (kexp subN (kn x) (l.take (ks x)) (3 * kn x + 28)).1
theorem kW_by {l : List Nat} (hb : By l) (x : Int) : By (kW l x) := (kexp_by (fun x hx => sub_lt hx) _ (take_by hb _) _).1
theorem tk_size {l : List Nat} (hl : l.length = 32) (x : Int) : (bsL (l.take (ks x))).size = 4 * kn x := by
  rw [bsL_len, List.length_take, hl]
  have := ks_kn x
  rcases ks_of x with h | h | h <;> omega
theorem newk {l : List Nat} (hl : l.length = 32) (hb : By l) (x : Int) (w : World) : Calls Tryd.prog 9 #[.string (bsL (l.take (ks x)))] w fun e w' => ∃ c t bw o cap, e = .returned (.tuple #[.pointer (some ⟨c, 0, none⟩), .nilIface]) ∧ Ci w' c t bw o (4 * (kn x + 7)) cap (kW l x) ∧ Below w.heap.size w w' := by
  have h := new_ok (bsL (l.take (ks x))) (kn x) (kn_of x) (tk_size hl x) w
  rw [natL_bsL (take_by hb _)] at h
  exact h
theorem refk {l b : List Nat} (hl : l.length = 32) (hb : By l) (x : Int) (hbl : b.length = 16) (hbb : By b) (w : World) : Calls Tryd.prog 12 #[.string (bsL (l.take (ks x))), .string (bsL b)] w fun e w' => e = .returned (.string (bsL (block sbT (kW l x) (kn x + 6) b))) ∧ Below w.heap.size w w' := by
  have h := rblock_ok (bsL (l.take (ks x))) (bsL b) (kn x) (kn_of x) (tk_size hl x) (by rw [bsL_len, hbl]) w
  rw [natL_bsL (take_by hb _), natL_bsL hbb] at h
  rw [show (kexp subN (kn x) (l.take (ks x)) (3 * kn x + 28)).1 = kW l x from rfl, rst_block (kW_by hb x) hbb (by omega)] at h
  exact h
theorem blkk {l b : List Nat} {c t bw o cap : Nat} (x : Int) (hbl : b.length = 16) (hbb : By b) (w : World) (hC : Ci w c t bw o (4 * (kn x + 7)) cap (kW l x)) : Calls Tryd.prog 11 #[.pointer (some ⟨c, 0, none⟩), .agg (b8 b).toArray] w fun e w' => e = .returned (.agg (b8 (block sbT (kW l x) (kn x + 6) b)).toArray) ∧ Below w.heap.size w w' :=
  block_ok c t bw o (4 * (kn x + 7)) cap (kn x + 6) (kW l x) b rfl (by omega) hbl hbb w hC
theorem backk {l b : List Nat} {c t bw o cap : Nat} (x : Int) (hbl : b.length = 16) (hbb : By b) (w : World) (hC : Ci w c t bw o (4 * (kn x + 7)) cap (kW l x)) : Calls Tryd.prog 13 #[.pointer (some ⟨c, 0, none⟩), .agg (b8 b).toArray] w fun e w' => e = .returned (.agg (b8 (back bkT (kW l x) (kn x + 6) b)).toArray) ∧ Below w.heap.size w w' :=
  back_ok c t bw o (4 * (kn x + 7)) cap (kn x + 6) (kW l x) b rfl (by omega) (by have := kn_of x; omega) hbl hbb w hC
/-- the law's variables: its key, its block -/
def LV (w : World) (kb bb : Nat) (l : List Nat) (x : Int) (b : List Nat) : Prop := Blk w kb 24 (b8 l ++ [Value.int .i64 x]) ∧ Blk w bb 25 (b8 b)
theorem LV.below {w w' : World} {kb bb : Nat} {l b : List Nat} {x : Int} (h : LV w kb bb l x b) (hw : Below w.heap.size w w') : LV w' kb bb l x b := ⟨h.1.below hw h.1.lt, h.2.below hw h.2.lt⟩
theorem LV.new (w : World) (l b : List Nat) (x : Int) : LV ((w.alloc (.cells (b8 l ++ [Value.int .i64 x]).toArray 24)).alloc (.cells (b8 b).toArray 25)) w.heap.size (w.heap.size + 1) l x b := by
  have h1 : Blk (w.alloc (.cells (b8 l ++ [Value.int .i64 x]).toArray 24)) w.heap.size 24 (b8 l ++ [Value.int .i64 x]) := Blk.new w _ _
  exact ⟨h1.below (below1 _ _) h1.lt, Blk.new2 w _ _ _⟩
theorem kv_len {l : List Nat} (hl : l.length = 32) (x : Int) : (b8 l ++ [Value.int .i64 x]).length = 33 := by rw [List.length_append, b8_len, hl]; rfl
end Go.Proofs.YteleedcpepifjaaDoor
