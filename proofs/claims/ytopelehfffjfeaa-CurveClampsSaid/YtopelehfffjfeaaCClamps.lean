/-
CurveClamps, walked.
-/
import Derived.Test.YtopelehfffjfeaaCLaws
import Derived.Test.YtopelehfffjfeaaDrift2C
namespace Go.Proofs.Ytopelehfffjfeaa
open Go.RowKit

theorem and7 (y : Nat) (hy : y < 256) : ∃ k : Nat, k < 8 ∧ bits .and .u8 (y : Int) 7 = (k : Int) := by
  have : ∀ y : Fin 256, (bits .and .u8 ((y.val : Nat) : Int) 7).toNat < 8 ∧ bits .and .u8 ((y.val : Nat) : Int) 7 = (((bits .and .u8 ((y.val : Nat) : Int) 7).toNat : Nat) : Int) := by decide +kernel
  exact ⟨_, this ⟨y, hy⟩⟩
theorem and192 (y : Nat) (hy : y < 256) : ∃ k : Nat, k < 4 ∧ bits .and .u8 (y : Int) 192 = ((64 * k : Nat) : Int) := by
  have : ∀ y : Fin 256, (bits .and .u8 ((y.val : Nat) : Int) 192).toNat / 64 < 4 ∧ bits .and .u8 ((y.val : Nat) : Int) 192 = ((64 * ((bits .and .u8 ((y.val : Nat) : Int) 192).toNat / 64) : Nat) : Int) := by decide +kernel
  exact ⟨_, this ⟨y, hy⟩⟩
theorem and128 (y : Nat) (hy : y < 256) : ∃ k : Nat, k < 2 ∧ bits .and .u8 (y : Int) 128 = ((128 * k : Nat) : Int) := by
  have : ∀ y : Fin 256, (bits .and .u8 ((y.val : Nat) : Int) 128).toNat / 128 < 2 ∧ bits .and .u8 ((y.val : Nat) : Int) 128 = ((128 * ((bits .and .u8 ((y.val : Nat) : Int) 128).toNat / 128) : Nat) : Int) := by decide +kernel
  exact ⟨_, this ⟨y, hy⟩⟩
theorem xor_low (x y : Nat) (hx : x < 256) (hy : y < 256) : ∃ m : Nat, m < 256 ∧ bits .xor .u8 (x : Int) (bits .and .u8 (y : Int) 7) = (m : Int) ∧ m / 8 * 8 = x / 8 * 8 := by
  obtain ⟨k, hk, e⟩ := and7 y hy
  have : ∀ (k : Fin 8) (x : Fin 256), (bits .xor .u8 ((x.val : Nat) : Int) ((k.val : Nat) : Int)).toNat < 256 ∧ bits .xor .u8 ((x.val : Nat) : Int) ((k.val : Nat) : Int) = (((bits .xor .u8 ((x.val : Nat) : Int) ((k.val : Nat) : Int)).toNat : Nat) : Int) ∧ (bits .xor .u8 ((x.val : Nat) : Int) ((k.val : Nat) : Int)).toNat / 8 * 8 = x.val / 8 * 8 := by decide +kernel
  rw [e]
  exact ⟨_, this ⟨k, hk⟩ ⟨x, hx⟩⟩
theorem xor_high (x y : Nat) (hx : x < 256) (hy : y < 256) : ∃ m : Nat, m < 256 ∧ bits .xor .u8 (x : Int) (bits .and .u8 (y : Int) 192) = (m : Int) ∧ m % 64 = x % 64 := by
  obtain ⟨k, hk, e⟩ := and192 y hy
  have : ∀ (k : Fin 4) (x : Fin 256), (bits .xor .u8 ((x.val : Nat) : Int) ((64 * k.val : Nat) : Int)).toNat < 256 ∧ bits .xor .u8 ((x.val : Nat) : Int) ((64 * k.val : Nat) : Int) = (((bits .xor .u8 ((x.val : Nat) : Int) ((64 * k.val : Nat) : Int)).toNat : Nat) : Int) ∧ (bits .xor .u8 ((x.val : Nat) : Int) ((64 * k.val : Nat) : Int)).toNat % 64 = x.val % 64 := by decide +kernel
  rw [e]
  exact ⟨_, this ⟨k, hk⟩ ⟨x, hx⟩⟩
theorem xor_top (x y : Nat) (hx : x < 256) (hy : y < 256) : ∃ m : Nat, m < 256 ∧ bits .xor .u8 (x : Int) (bits .and .u8 (y : Int) 128) = (m : Int) ∧ m % 128 = x % 128 := by
  obtain ⟨k, hk, e⟩ := and128 y hy
  have : ∀ (k : Fin 2) (x : Fin 256), (bits .xor .u8 ((x.val : Nat) : Int) ((128 * k.val : Nat) : Int)).toNat < 256 ∧ bits .xor .u8 ((x.val : Nat) : Int) ((128 * k.val : Nat) : Int) = (((bits .xor .u8 ((x.val : Nat) : Int) ((128 * k.val : Nat) : Int)).toNat : Nat) : Int) ∧ (bits .xor .u8 ((x.val : Nat) : Int) ((128 * k.val : Nat) : Int)).toNat % 128 = x.val % 128 := by decide +kernel
  rw [e]
  exact ⟨_, this ⟨k, hk⟩ ⟨x, hx⟩⟩
/-- the scalar's bits that do not count -/
theorem KN_same {l : List UInt8} (h : l.length = 32) {m0 m31 : Nat} (h0 : m0 < 256) (h31 : m31 < 256) (e0 : m0 / 8 * 8 = (l.getD 0 0).toNat / 8 * 8) (e31 : m31 % 64 = (l.getD 31 0).toNat % 64) :
    KN ((l.set 0 (UInt8.ofNat m0)).set 31 (UInt8.ofNat m31)) = KN l := by
  obtain ⟨a, m, z, rfl, hm⟩ := split32 h
  have ea : (a :: (m ++ [z])).getD 31 0 = z := by
    rw [List.getD_eq_getElem?_getD, List.getElem?_cons_succ, List.getElem?_append_right (by omega), hm]
    rfl
  rw [ea] at e31
  change m0 / 8 * 8 = a.toNat / 8 * 8 at e0
  have es : ((a :: (m ++ [z])).set 0 (UInt8.ofNat m0)).set 31 (UInt8.ofNat m31) = UInt8.ofNat m0 :: (m ++ [UInt8.ofNat m31]) := by
    rw [List.set_cons_zero, List.set_cons_succ, List.set_append_right _ _ (by omega), hm]
    rfl
  rw [es, KN_split _ _ m hm, KN_split _ _ m hm, UInt8.toNat_ofNat', UInt8.toNat_ofNat', Nat.mod_eq_of_lt (show m0 < 2 ^ 8 from h0), Nat.mod_eq_of_lt (show m31 < 2 ^ 8 from h31), e0, e31]
theorem mod_top (T z : Nat) : (T + 2 ^ 248 * z) % 2 ^ 255 = (T + 2 ^ 248 * (z % 128)) % 2 ^ 255 := by
  have e : T + 2 ^ 248 * z = T + 2 ^ 248 * (z % 128) + 2 ^ 255 * (z / 128) := by
    have h := Nat.div_add_mod z 128
    have h2 : 2 ^ 248 * z = 2 ^ 248 * (128 * (z / 128)) + 2 ^ 248 * (z % 128) := by rw [← Nat.mul_add, h]
    rw [h2, ← Nat.mul_assoc, show (2 : Nat) ^ 248 * 128 = 2 ^ 255 by decide]
    omega
  rw [e, Nat.add_mul_mod_self_left]
theorem le8_three (a z : UInt8) (m : List UInt8) (h : m.length = 30) : le8 (a :: (m ++ [z])) = (a.toNat + 256 * le8 m) + 2 ^ 248 * z.toNat := by
  rw [le8_cons, le8_append, h]
  have e : le8 [z] = z.toNat := by rw [le8_cons]; rfl
  rw [e, Nat.mul_add, ← Nat.mul_assoc, show 256 * 256 ^ 30 = 2 ^ 248 by decide, Nat.add_assoc]
theorem fpOf_split (a z : UInt8) (m : List UInt8) (h : m.length = 30) : fpOf ⟨(a :: (m ++ [z])).toArray⟩ = Fp.ofN (((a.toNat + 256 * le8 m) + 2 ^ 248 * (z.toNat % 128)) % 2 ^ 255) := by
  unfold fpOf ofB
  show Fp.ofN (le8 ((a :: (m ++ [z])).take 32) % 2 ^ 255) = _
  rw [List.take_of_length_le (by simp [h]), le8_three a z m h, mod_top]
/-- the point's bit that does not count -/
theorem fpOf_same {l : List UInt8} (h : l.length = 32) {m31 : Nat} (h31 : m31 < 256) (e31 : m31 % 128 = (l.getD 31 0).toNat % 128) : fpOf ⟨(l.set 31 (UInt8.ofNat m31)).toArray⟩ = fpOf ⟨l.toArray⟩ := by
  obtain ⟨a, m, z, rfl, hm⟩ := split32 h
  have ea : (a :: (m ++ [z])).getD 31 0 = z := by
    rw [List.getD_eq_getElem?_getD, List.getElem?_cons_succ, List.getElem?_append_right (by omega), hm]
    rfl
  rw [ea] at e31
  have es : (a :: (m ++ [z])).set 31 (UInt8.ofNat m31) = a :: (m ++ [UInt8.ofNat m31]) := by
    rw [List.set_cons_succ, List.set_append_right _ _ (by omega), hm]
    rfl
  rw [es, fpOf_split _ _ m hm, fpOf_split _ _ m hm, UInt8.toNat_ofNat', Nat.mod_eq_of_lt (show m31 < 2 ^ 8 from h31), e31]
end Go.Proofs.Ytopelehfffjfeaa
