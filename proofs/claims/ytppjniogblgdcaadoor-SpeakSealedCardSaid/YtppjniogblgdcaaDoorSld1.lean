/-
SpeakSealed: what the law computes, plainly.
-/
import Derived.Test.YtppjniogblgdcaaDoorHma3
import Derived.Test.YtppjniogblgdcaaDoorCut
namespace Go.Proofs.YtppjniogblgdcaaDoor
open Go.RowKit Cha Sha Hm Pol
theorem spread_two {w : World} {T F : List Int} (hT : ShaT w T F) (key label : List UInt8) : (spreadL T F key label 40).take 32 = spreadL T F key label 32 ∧ (spreadL T F key label 32).length = 32 ∧ (spreadL T F key label 40).length = 40 := by
  have l1 := outN_len hT key label 1
  have l2 := outN_len hT key label 2
  have e2 : outN T F key label 2 = outN T F key label 1 ++ lastN T F key label 2 := rfl
  unfold spreadL
  rw [show (40 + 31) / 32 = 2 from rfl, show (32 + 31) / 32 = 1 from rfl]
  refine ⟨?_, by rw [List.length_take]; omega, by rw [List.length_take]; omega⟩
  rw [List.take_take, e2, List.take_append_of_le_length (by omega)]
  congr 1
theorem pad_mod (l : List UInt8) : (Pol.padL l).length % 16 = 0 := by
  unfold Pol.padL
  rw [List.length_append, List.length_replicate]; omega
theorem pad_two (e x : List UInt8) : Pol.padL (Pol.padL e ++ x) = Pol.padL e ++ Pol.padL x := by
  have h := pad_mod e
  generalize Pol.padL e = y at *
  unfold Pol.padL
  rw [List.append_assoc, List.length_append]
  congr 4
  omega
/-- j zeros behind -/
def zer (l : List UInt8) (j : Nat) : List UInt8 := l ++ List.replicate j 0
theorem zer_succ (l : List UInt8) (j : Nat) : zer l j ++ [0] = zer l (j + 1) := by
  unfold zer
  rw [List.append_assoc, ← List.replicate_succ']
theorem zer_pad (l : List UInt8) (j : Nat) (h1 : j ≤ (16 - l.length % 16) % 16) (h2 : (zer l j).length % 16 = 0) : zer l j = Pol.padL l := by
  unfold zer at *
  rw [List.length_append, List.length_replicate] at h2
  unfold Pol.padL
  congr 2
  omega
theorem zer_len (l : List UInt8) (j : Nat) : (zer l j).length = l.length + j := by simp [zer]
/-- the first j bytes of a count -/
def cntN (n j : Nat) : List UInt8 := (List.range j).map (cntF n)
theorem cntN_succ (n j : Nat) : cntN n j ++ [cntF n j] = cntN n (j + 1) := by
  unfold cntN
  rw [List.range_succ, List.map_append]; rfl
theorem cntN_eight (n : Nat) : cntN n 8 = cntL n := by
  unfold cntN cntL upto8
  refine List.map_congr_left fun q hq => ?_
  have := List.mem_range.1 hq
  rw [if_pos this]
theorem cnt_byte (n j : Nat) : ((n / 256 ^ j % 256 : Nat) : Int) = ((cntF n j).toNat : Nat) := by
  have e : (2 : Int) ^ (8 * j) = ((256 ^ j : Nat) : Int) := by
    rw [show (256 : Nat) = 2 ^ 8 from rfl, ← Nat.pow_mul]
    exact (Int.natCast_pow 2 (8 * j)).symm
  unfold cntF
  rw [← lo8_val', e]
  rfl
theorem cntN_len (n j : Nat) : (cntN n j).length = j := by simp [cntN]
end Go.Proofs.YtppjniogblgdcaaDoor
