/-
A clamped scalar: its bytes and its number.
-/
import Derived.Test.YtilccncddbgpbaaDoorPk28
import Derived.Test.YtilccncddbgpbaaDoorPk31
namespace Go.Proofs.YtilccncddbgpbaaDoor
open Go.RowKit

/-- the bytes that count -/
def kc (l : List UInt8) : List UInt8 := (l.set 0 (UInt8.ofNat ((l.getD 0 0).toNat / 8 * 8))).set 31 (UInt8.ofNat ((l.getD 31 0).toNat % 64 + 64))
theorem kc_len (l : List UInt8) : (kc l).length = l.length := by simp [kc]
/-- the number -/
def KN (l : List UInt8) : Nat := le8 (kc l)
theorem le8_cons (b : UInt8) (t : List UInt8) : le8 (b :: t) = b.toNat + 256 * le8 t := rfl
theorem split32 {l : List UInt8} (h : l.length = 32) : ∃ a m z, l = a :: (m ++ [z]) ∧ m.length = 30 := by
  match l, h with
  | a :: t, h =>
    have ht : t.length = 31 := by simpa using h
    refine ⟨a, t.take 30, t.getD 30 0, ?_, by rw [List.length_take]; omega⟩
    have e := List.take_append_drop 30 t
    have hd : t.drop 30 = [t.getD 30 0] := by
      rw [List.drop_eq_getElem_cons (by omega), List.drop_eq_nil_of_le (by omega), List.getD_eq_getElem?_getD, List.getElem?_eq_getElem (by omega)]
      rfl
    rw [hd] at e
    rw [e]
theorem kc_split (a z : UInt8) (m : List UInt8) (h : m.length = 30) : kc (a :: (m ++ [z])) = UInt8.ofNat (a.toNat / 8 * 8) :: (m ++ [UInt8.ofNat (z.toNat % 64 + 64)]) := by
  unfold kc
  have e : (a :: (m ++ [z])).getD 31 0 = z := by
    rw [List.getD_eq_getElem?_getD, List.getElem?_cons_succ, List.getElem?_append_right (by omega), h]
    rfl
  rw [e, List.set_cons_zero, List.set_cons_succ, List.set_append_right _ _ (by omega), h]
  rfl
theorem KN_split (a z : UInt8) (m : List UInt8) (h : m.length = 30) : KN (a :: (m ++ [z])) = a.toNat / 8 * 8 + 256 * (le8 m + 256 ^ 30 * (z.toNat % 64 + 64)) := by
  unfold KN
  rw [kc_split a z m h, le8_cons, le8_append, h]
  have ha := a.toNat_lt
  have hz := z.toNat_lt
  have e1 : (UInt8.ofNat (a.toNat / 8 * 8)).toNat = a.toNat / 8 * 8 := by
    rw [UInt8.toNat_ofNat']; omega
  have e2 : le8 [UInt8.ofNat (z.toNat % 64 + 64)] = z.toNat % 64 + 64 := by
    rw [le8_cons, UInt8.toNat_ofNat']
    show (z.toNat % 64 + 64) % 2 ^ 8 + 256 * 0 = _
    omega
  rw [e1, e2]
set_option maxRecDepth 100000 in
theorem KN_ok {l : List UInt8} (h : l.length = 32) : 8 ∣ KN l ∧ 0 < KN l ∧ KN l < 2 ^ 255 := by
  obtain ⟨a, m, z, rfl, hm⟩ := split32 h
  rw [KN_split a z m hm]
  have h1 := le8_lt m
  rw [hm] at h1
  have ha := a.toNat_lt
  have hz : z.toNat % 64 < 64 := Nat.mod_lt _ (by decide)
  generalize z.toNat % 64 = y at *
  generalize le8 m = x at *
  have hq : a.toNat / 8 < 32 := by omega
  generalize a.toNat / 8 = q at *
  obtain ⟨P, hP⟩ : ∃ P : Nat, P = 256 ^ 30 := ⟨_, rfl⟩
  have hP0 : 0 < P := hP ▸ (by decide)
  have e : (2 : Nat) ^ 255 = 256 * (P * 128) := hP ▸ (by decide)
  rw [← hP] at h1 ⊢
  rw [e]
  clear hP e
  have e2 : P * (y + 64) + P ≤ P * 128 := by
    rw [← Nat.mul_succ]
    exact Nat.mul_le_mul_left _ (by omega)
  have e3 : P ≤ P * (y + 64) := Nat.le_mul_of_pos_right _ (by omega)
  generalize P * (y + 64) = T at *
  generalize P * 128 = M at *
  refine ⟨⟨q + 32 * (x + T), by omega⟩, by omega, by omega⟩
end Go.Proofs.YtilccncddbgpbaaDoor
