/-
The contract of the laws' Cut.
Field's laws: is a number the document's?
Arrays of 32 bytes: when they are equal.
Field's laws: the fixed facts.
The field of p elements, and the curve -x^2 + y^2 = 1 + d x^2 y^2 over it: a group.
The field's calls in the laws' hands: an element, a number of the document's, told by one element of F_p.
-/
import Derived.Test.YtilccncddbgpbaaDoorRows
import Derived.ChangeKeysEq
import Derived.Test.YtilccncddbgpbaaDoorPk01
import Derived.Test.YtilccncddbgpbaaDoorPk25
import Derived.Test.YtilccncddbgpbaaDoorPk27
import Derived.Test.YtilccncddbgpbaaDoorPk18
namespace Go.Proofs.YtilccncddbgpbaaDoor
open Go.RowKit

end Go.Proofs.YtilccncddbgpbaaDoor

namespace Go.Proofs.YtilccncddbgpbaaDoor
open Go.RowKit

theorem bvals_get (l : List UInt8) (i : Nat) (h : i < l.length) : (bvals l)[i]? = some (.int .u8 ((l.getD i 0).toNat : Nat)) := by
  simp [bvals, h]
theorem u8_ofN (m : Nat) : (UInt8.ofNat (m % 256)).toNat = m % 256 := by simp
theorem le8_leBytes (N n : Nat) : le8 (leBytes N n) = N % 256 ^ n := by
  induction n with
  | zero => simp [leBytes, le8, Nat.mod_one]
  | succ n ih =>
    rw [leBytes_succ, le8_append, ih, leBytes_length]
    simp only [le8, u8_ofN, Nat.mul_zero, Nat.add_zero]
    rw [Nat.pow_succ, Nat.mod_mul]
/-- a block of bytes, whole, as a string -/
theorem conv_blk {P : Program} {w : World} {src e dst : TypeId} {b n : Nat} {t : TypeId} {bs : List UInt8} (hs : P.underlying src = some (.slice e)) (he : P.underlying e = some (.int .u8)) (hd : P.underlying dst = some .string)
    (hn : bs.length = n) (h : Blk w b t (bvals bs)) : (convert src dst (.slice (some ⟨b, 0, none⟩) n n)).run P w = .ok (.string ⟨bs.toArray⟩) w := by
  have := run_convert_bytes_arg (P := P) w src e hs he b 0 n n (bs.map fun b => (b.toNat : Int)) (by simpa using hn) (fun i hi => ?_) dst hd
  · rw [this]
    have e1 : strOfNums (bs.map fun b => (b.toNat : Int)) = ⟨bs.toArray⟩ := by
      unfold strOfNums
      congr 2
      rw [List.map_map]
      conv => rhs; rw [← List.map_id bs]
      apply List.map_congr_left
      intro b _
      simp
    rw [e1]
  · have hi' : i < bs.length := by omega
    rw [Nat.zero_add, Blk.cell h i _ (bvals_get bs i hi')]
    simp [List.getElem?_eq_getElem hi', List.getD_eq_getElem?_getD]

theorem leBytes_inj : ∀ {n x y : Nat}, x < 256 ^ n → y < 256 ^ n → leBytes x n = leBytes y n → x = y := by
  intro n x y hx hy h
  have h1 := congrArg le8 h
  rwa [le8_leBytes, le8_leBytes, Nat.mod_eq_of_lt hx, Nat.mod_eq_of_lt hy] at h1
end Go.Proofs.YtilccncddbgpbaaDoor

namespace Go.Proofs.YtilccncddbgpbaaDoor
open Go.RowKit

theorem part_byte (w : World) (l : List UInt8) (i : Nat) (h : i < l.length) : (Go.part 5 (bvals l).toArray (i * 1)).run Tryd.prog w = .ok (.int .u8 ((l.getD i 0).toNat : Nat)) w := by
  have e := bvals_get l i h
  exact run_part_plain w (by kernel_rfl) (by rw [Nat.mul_one, List.getElem?_toArray]; exact e)
theorem eqItems_bytes (w : World) (l m : List UInt8) (hl : l.length = 32) (hm : m.length = 32) : ∀ (is : List Nat), (∀ i ∈ is, i < 32) →
    (Op.eqItems 9999 5 1 (bvals l).toArray (bvals m).toArray is).run Tryd.prog w = .ok (is.all fun i => l.getD i 0 == m.getD i 0) w
  | [], _ => by simp [Op.eqItems]
  | i :: is, h => by
    have hi := h i (List.mem_cons_self ..)
    have ih := eqItems_bytes w l m hl hm is (fun j hj => h j (List.mem_cons_of_mem _ hj))
    have hq : ((((l.getD i 0).toNat : Nat) : Int) == ((m.getD i 0).toNat : Nat)) = (l.getD i 0 == m.getD i 0) := by
      rw [Bool.eq_iff_iff, beq_iff_eq, beq_iff_eq]
      constructor
      · intro e; exact UInt8.toNat.inj (by omega)
      · intro e; rw [e]
    simp only [Op.eqItems, Sem.run_bind, part_byte w l i (by omega), part_byte w m i (by omega), Result.andThen_ok, run_equalIn_int w 9998 5 .u8 .u8 _ _ Tryd.underlying5, hq, List.all_cons]
    cases l.getD i 0 == m.getD i 0
    · rfl
    · exact ih
theorem range_all {l m : List UInt8} (hl : l.length = 32) (hm : m.length = 32) : ((List.range 32).all fun i => l.getD i 0 == m.getD i 0) = decide (l = m) := by
  rw [Bool.eq_iff_iff, List.all_eq_true, decide_eq_true_iff]
  constructor
  · intro h
    apply List.ext_getElem (by omega)
    intro i h1 h2
    have := h i (List.mem_range.2 (by omega))
    simpa [h1, h2] using this
  · rintro rfl i _
    simp
theorem eq32 (w : World) (l m : List UInt8) (hl : l.length = 32) (hm : m.length = 32) : (Op.equalIn 10000 22 (.agg (bvals l).toArray) (.agg (bvals m).toArray)).run Tryd.prog w = .ok (decide (l = m)) w := by
  obtain ⟨i0, hi, _, h1, _⟩ := info_parts byteInfo
  rw [run_equalIn_array w 9999 (bvals l).toArray (bvals m).toArray Tryd.underlying22 hi, show Tryd.prog.cellsOf 5 = 1 from by kernel_rfl, eqItems_bytes w l m hl hm _ (fun i h => List.mem_range.1 h), range_all hl hm]
end Go.Proofs.YtilccncddbgpbaaDoor

namespace Go.Proofs.YtilccncddbgpbaaDoor
open Go.RowKit

def ffs (i : Nat) : ByteArray := ⟨(List.replicate i 255).toArray⟩
theorem ffs_succ (i : Nat) : ffs i ++ ⟨#[255]⟩ = ffs (i + 1) := by
  apply ByteArray.ext
  simp [ffs]
  exact Array.ext' (by simp [List.replicate_succ'])
theorem ffs_of : lv (ofN (ofB (ffs 32))) % pP = 18 := by decide +kernel
def LIT32 : Array Value := #[.int .u8 18, .int .u8 0, .int .u8 0, .int .u8 0, .int .u8 0, .int .u8 0, .int .u8 0, .int .u8 0, .int .u8 0, .int .u8 0, .int .u8 0, .int .u8 0, .int .u8 0, .int .u8 0, .int .u8 0, .int .u8 0, .int .u8 0, .int .u8 0, .int .u8 0, .int .u8 0, .int .u8 0, .int .u8 0, .int .u8 0, .int .u8 0, .int .u8 0, .int .u8 0, .int .u8 0, .int .u8 0, .int .u8 0, .int .u8 0, .int .u8 0, .int .u8 0]
end Go.Proofs.YtilccncddbgpbaaDoor

namespace Go.Proofs.YtilccncddbgpbaaDoor

instance : NeZero pP := ⟨by decide⟩
abbrev Fp := Fin pP
namespace Fp
theorem val_mul (a b : Fp) : (a * b).val = a.val * b.val % pP := Fin.val_mul ..
theorem zero_or {a b : Fp} (h : a * b = 0) : a = 0 ∨ b = 0 := by
  have h1 : pP ∣ a.val * b.val := Nat.dvd_of_mod_eq_zero (by rw [← val_mul, h]; rfl)
  rcases pP_prm.dvd_mul h1 with h2 | h2
  · exact .inl (Fin.ext (by have := Nat.eq_zero_of_dvd_of_lt h2 a.isLt; exact this))
  · exact .inr (Fin.ext (by have := Nat.eq_zero_of_dvd_of_lt h2 b.isLt; exact this))
theorem mul_ne {a b : Fp} (ha : a ≠ 0) (hb : b ≠ 0) : a * b ≠ 0 := fun h => (zero_or h).elim ha hb
def ofN (n : Nat) : Fp := ⟨n % pP, Nat.mod_lt _ pP_pos⟩
theorem ofN_val (a : Fp) : ofN a.val = a := Fin.ext (Nat.mod_eq_of_lt a.isLt)
theorem ofN_mul (a b : Nat) : ofN (a * b) = ofN a * ofN b := Fin.ext (by rw [val_mul]; exact Nat.mul_mod ..)
theorem ofN_add (a b : Nat) : ofN (a + b) = ofN a + ofN b := Fin.ext (by rw [Fin.val_add]; exact Nat.add_mod ..)
theorem ofN_mod (a : Nat) : ofN (a % pP) = ofN a := Fin.ext (Nat.mod_mod ..)
theorem ofN_pow (a n : Nat) : ofN (a ^ n) = ofN a ^ n := by
  induction n with
  | zero => exact (show ofN 1 = 1 from Fin.ext rfl).trans (by grind)
  | succ n ih => rw [Nat.pow_succ, ofN_mul, ih]; grind
theorem ofN_eq {a b : Nat} : ofN a = ofN b ↔ a % pP = b % pP := ⟨fun h => congrArg Fin.val h, fun h => Fin.ext h⟩
theorem fermat {a : Fp} (ha : a ≠ 0) : a ^ (pP - 1) = 1 := by
  have h1 : ¬ pP ∣ a.val := fun h => ha (Fin.ext (by have := Nat.eq_zero_of_dvd_of_lt h a.isLt; exact this))
  have h2 := pP_prm.fermat h1
  rw [← ofN_val a, ← ofN_pow]
  apply Fin.ext
  show a.val ^ (pP - 1) % pP = 1
  exact h2
theorem fermat' {a : Fp} (ha : a ≠ 0) {n : Nat} (hn : n = pP - 1) : a ^ n = 1 := by
  subst hn
  exact fermat ha
/-- the inverse, as the powers give it -/
def inv (a : Fp) : Fp := a ^ (pP - 2)
theorem mul_inv {a : Fp} (ha : a ≠ 0) : a * inv a = 1 := by
  have h := fermat ha
  have e : pP - 1 = pP - 2 + 1 := by decide
  rw [e] at h
  unfold inv
  generalize pP - 2 = k at h ⊢
  grind
theorem has_inv {a : Fp} (ha : a ≠ 0) : ∃ i, a * i = 1 := ⟨_, mul_inv ha⟩
theorem pw_succ (x : Fp) (n : Nat) : x ^ (n + 1) = x ^ n * x := by grind
theorem inv_zero : inv 0 = 0 := by
  unfold inv
  obtain ⟨k, hk⟩ : ∃ k, pP - 2 = k + 1 := ⟨pP - 3, by decide⟩
  rw [hk, pw_succ]
  generalize (0 : Fp) ^ k = a
  grind
theorem cancel {a b c : Fp} (hc : c ≠ 0) (h : a * c = b * c) : a = b := by
  obtain ⟨i, hi⟩ := has_inv hc
  grind
end Fp
end Go.Proofs.YtilccncddbgpbaaDoor

namespace Go.Proofs.YtilccncddbgpbaaDoor
open Go.RowKit

/-- the value v is the element x -/
def El (v : Value) (x : Fp) : Prop := ∃ l, v = .agg (uvals l).toArray ∧ Lm l x.val
theorem Lm.cast {l : List Nat} {x y : Nat} (h : Lm l x) (e : x = y) : Lm l y := e ▸ h
theorem val_add (x y : Fp) : (x.val + y.val) % pP = (x + y).val := (Fin.val_add ..).symm
theorem val_mul (x y : Fp) : x.val * y.val % pP = (x * y).val := (Fin.val_mul ..).symm
theorem val_sub (x y : Fp) : (x.val + (pP - y.val)) % pP = (x - y).val := by rw [Fin.val_sub, Nat.add_comm]
theorem val_neg (x : Fp) : (pP - x.val) % pP = (-x).val := (Fin.val_neg' ..).symm
theorem val_small (n : Nat) : n % pP = (Fp.ofN n).val := rfl
theorem val_pow (x : Fp) (n : Nat) : x.val ^ n % pP = (x ^ n).val := by
  have h := congrArg Fin.val (Fp.ofN_pow x.val n)
  rw [Fp.ofN_val] at h
  exact h
/-- the number of a string's bytes -/
def fpOf (s : ByteArray) : Fp := Fp.ofN (ofB s % 2 ^ 255)

abbrev Gives (w : World) (x : Fp) : Ending → World → Prop := fun e w' => ∃ v, e = .returned v ∧ El v x ∧ Below w.heap.size w w'
abbrev Tells (w : World) (b : Bool) : Ending → World → Prop := fun e w' => e = .returned (.bool b) ∧ Below w.heap.size w w'
abbrev Numbers (w : World) (n : Nat) : Ending → World → Prop := fun e w' => ∃ v, e = .returned v ∧ Num w' v n ∧ Below w.heap.size w w'
theorem gives {f : FuncId} {args : Array Value} {w : World} {l : List Nat} {x : Fp} (h : Calls Tryd.prog f args w fun e w' => e = .returned (ev l) ∧ Below w.heap.size w w') (hl : Lm l x.val) : Calls Tryd.prog f args w (Gives w x) :=
  h.mono fun _ _ ⟨he, hb⟩ => ⟨_, he, ⟨l, rfl, hl⟩, hb⟩
theorem tells {f : FuncId} {args : Array Value} {w : World} {b c : Bool} (h : Calls Tryd.prog f args w fun e w' => e = .returned (.bool b) ∧ Below w.heap.size w w') (hb : b = c) : Calls Tryd.prog f args w (Tells w c) := hb ▸ h
theorem elOf (s : ByteArray) (w : World) : Calls Tryd.prog 7 #[.string s] w (Gives w (fpOf s)) := gives (of_el s w) (Lm.ofN (ofB s))
theorem elSmall (n : Nat) (w : World) (h : n < 18446744073709551616) : Calls Tryd.prog 8 #[.int .u64 n] w (Gives w (Fp.ofN n)) := gives (el_small_ok n w h) (Lm.smallN n (by simpa using h))
theorem elAdd {v u : Value} {x y : Fp} (hv : El v x) (hu : El u y) (w : World) : Calls Tryd.prog 9 #[v, u] w (Gives w (x + y)) := by
  obtain ⟨a, rfl, ha⟩ := hv
  obtain ⟨b, rfl, hb⟩ := hu
  exact gives (el_add_ok a b w ha.len hb.len ha.small hb.small) ((ha.add hb).cast (val_add x y))
theorem elSub {v u : Value} {x y : Fp} (hv : El v x) (hu : El u y) (w : World) : Calls Tryd.prog 11 #[v, u] w (Gives w (x - y)) := by
  obtain ⟨a, rfl, ha⟩ := hv
  obtain ⟨b, rfl, hb⟩ := hu
  exact gives (el_sub_ok a b w ha.len hb.len ha.small hb.small) ((ha.sub hb).cast (val_sub x y))
theorem elMul {v u : Value} {x y : Fp} (hv : El v x) (hu : El u y) (w : World) : Calls Tryd.prog 10 #[v, u] w (Gives w (x * y)) := by
  obtain ⟨a, rfl, ha⟩ := hv
  obtain ⟨b, rfl, hb⟩ := hu
  exact gives (el_mul_ok a b w ha.own hb.own) ((ha.mul hb).cast (val_mul x y))
theorem elNeg {v : Value} {x : Fp} (hv : El v x) (w : World) : Calls Tryd.prog 38 #[v] w (Gives w (-x)) := by
  obtain ⟨a, rfl, ha⟩ := hv
  exact gives (el_neg_ok a w ha.len ha.small) (ha.neg.cast (val_neg x))
theorem elSquare {v : Value} {x : Fp} (hv : El v x) (w : World) : Calls Tryd.prog 45 #[v] w (Gives w (x * x)) := by
  obtain ⟨a, rfl, ha⟩ := hv
  exact gives (el_square_ok a w ha.own) ((ha.mul ha).cast (val_mul x x))
theorem inv_exp : expN 21 / 2 ^ (255 - 255) = pP - 2 := by decide
theorem Lm.inv {a : List Nat} {x : Fp} (ha : Lm a x.val) : Lm (invN a) (Fp.inv x).val := by
  have h := ha.pow (expN 21) (expN_lt 21 (by omega)) 255 (Nat.le_refl _)
  rw [inv_exp] at h
  exact h.cast (val_pow x _)
theorem elInvert {v : Value} {x : Fp} (hv : El v x) (w : World) : Calls Tryd.prog 12 #[v] w (Gives w (Fp.inv x)) := by
  obtain ⟨a, rfl, ha⟩ := hv
  exact gives (el_invert_ok a w ha.own) ha.inv
theorem elSame {v u : Value} {x y : Fp} (hv : El v x) (hu : El u y) (w : World) : Calls Tryd.prog 63 #[v, u] w (Tells w (decide (x = y))) := by
  obtain ⟨a, rfl, ha⟩ := hv
  obtain ⟨b, rfl, hb⟩ := hu
  exact tells (el_same_ok a b w ha.len hb.len ha.small hb.small) ((ha.same hb).trans (decide_eq_decide.2 Fin.val_inj))
theorem elZero {v : Value} {x : Fp} (hv : El v x) (w : World) : Calls Tryd.prog 15 #[v] w (Tells w (decide (x = 0))) := by
  obtain ⟨a, rfl, ha⟩ := hv
  exact tells (el_zero_ok a w ha.len ha.small) (ha.zeroN.trans (decide_eq_decide.2 (show x.val = (0 : Fp).val ↔ _ from Fin.val_inj)))
theorem elOdd {v : Value} {x : Fp} (hv : El v x) (w : World) : Calls Tryd.prog 44 #[v] w (Tells w (decide (x.val % 2 = 1))) := by
  obtain ⟨a, rfl, ha⟩ := hv
  exact tells (el_odd_ok a w ha.len ha.small) ha.odd
theorem elChoose {v u : Value} {x y : Fp} (c : Bool) (hv : El v x) (hu : El u y) (w : World) : Calls Tryd.prog 55 #[.bool c, v, u] w (Gives w (if c then x else y)) := by
  obtain ⟨a, rfl, ha⟩ := hv
  obtain ⟨b, rfl, hb⟩ := hu
  exact gives (el_choose_ok c a b w ha.len hb.len) (by cases c; exact hb; exact ha)
/-! the document's -/
theorem numbers {f : FuncId} {args : Array Value} {w : World} {n m : Nat} (h : Calls Tryd.prog f args w fun e w' => ∃ v', e = .returned v' ∧ Num w' v' n ∧ Below w.heap.size w w') (e : n = m) : Calls Tryd.prog f args w (Numbers w m) := e ▸ h
/-! memory -/
theorem load_el2 {ops : Array Oper} {rest : List Oper} {o : Oper} {a : Act} {w : World} {Q : Exit → Act → World → Prop} {b : Nat} {x : Operand} {l : List Nat} {t : TypeId} (hb : Blk w b t (uvals l)) (hl : l.length = 5)
    (hg : Region.wanted o (yielded ops a.tmps) = true) (ho : o.op = .load 30 x) (hx : a.eval x = .pointer (some ⟨b, 0, none⟩)) (h : wpList Tryd.prog ops Q rest (a.put o.dst (.agg (uvals l).toArray)) w) : wpList Tryd.prog ops Q (o :: rest) a w := by
  unfold wpList
  rw [if_pos hg]
  exact .inl (wp_load_row 30 x ho b hx t _ (0, 0) _ hb Tryd.underlying30 rfl (by rw [elem_size]; simp [uvals_len, hl]) h)
/-- a block that holds an element -/
def At (w : World) (b : Nat) (x : Fp) : Prop := ∃ l, Blk w b tE (uvals l) ∧ Lm l x.val
end Go.Proofs.YtilccncddbgpbaaDoor
