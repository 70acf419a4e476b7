/-
Strings as lists of bytes; a number's last byte.
-/
import Derived.Test.YtppjniogblgdcaaDoorIvB
namespace Go.Proofs.YtppjniogblgdcaaDoor
open Go.RowKit
def by8 (l : List UInt8) : ByteArray := ⟨l.toArray⟩
theorem by8_l (l : List UInt8) : (by8 l).data.toList = l := rfl
theorem by8_of (s : ByteArray) : by8 s.data.toList = s := by simp [by8]
theorem by8_size (l : List UInt8) : (by8 l).size = l.length := by simp [by8, ByteArray.size]
theorem by8_take (l : List UInt8) (k : Nat) : (by8 l).extract 0 k = by8 (l.take k) := by
  apply ByteArray.ext
  simp [by8, ByteArray.data_extract]
theorem by8_drop (l : List UInt8) (k n : Nat) (hn : n = l.length) : (by8 l).extract k n = by8 (l.drop k) := by
  apply ByteArray.ext
  apply Array.ext'
  simp only [by8, ByteArray.data_extract, Array.toList_extract, List.extract_eq_take_drop]
  rw [List.take_of_length_le (by rw [List.length_drop]; omega)]
theorem by8_mid (l : List UInt8) (i j : Nat) : (by8 l).extract i j = by8 ((l.drop i).take (j - i)) := by
  apply ByteArray.ext
  apply Array.ext'
  simp only [by8, ByteArray.data_extract, Array.toList_extract, List.extract_eq_take_drop]
theorem by8_app (a b : List UInt8) : by8 a ++ by8 b = by8 (a ++ b) := by
  apply ByteArray.ext
  simp [by8, ByteArray.data_append]
theorem by8_empty (l : List UInt8) : (by8 l).toList.isEmpty = decide (l.length = 0) := by
  rw [ByteArray.toList_eq]
  show l.isEmpty = _
  cases l <;> rfl
theorem by8_inj {a b : List UInt8} (h : by8 a = by8 b) : a = b := by
  have := congrArg (fun s : ByteArray => s.data.toList) h
  exact this
def sLen8 : Value → Nat
  | .string s => s.size
  | _ => 0
/-- a number's last byte -/
def lo8 (z : Int) : UInt8 := UInt8.ofNat (z % 256).toNat
theorem lo8_val (z : Int) : IntKind.u8.wrap z = ((lo8 z).toNat : Nat) := by
  rw [IntKind.wrap_u8]
  unfold lo8
  have h0 : 0 ≤ z % 256 := Int.emod_nonneg _ (by decide)
  have h1 : z % 256 < 256 := Int.emod_lt_of_pos _ (by decide)
  rw [UInt8.toNat_ofNat']
  omega
theorem lo8_val' (z : Int) : z % 256 = ((lo8 z).toNat : Nat) := by rw [← lo8_val, IntKind.wrap_u8]
theorem byv_app (a b : List UInt8) : byv (a ++ b) = byv a ++ byv b := by simp [byv]
theorem byv_cells (l : List UInt8) : Lib.byteCells l = byv l := rfl
end Go.Proofs.YtppjniogblgdcaaDoor
