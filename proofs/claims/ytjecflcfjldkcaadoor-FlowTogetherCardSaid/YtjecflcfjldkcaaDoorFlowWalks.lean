/-
The contracts of flow's methods, said of whole blocks.
-/
import Derived.Test.YtjecflcfjldkcaaDoorErrCode
namespace Go.Proofs.YtjecflcfjldkcaaDoor
open Go.RowKit

/-- block b is a Recv -/
def Rc (w : World) (b size left most fresh used : Nat) : Prop := Blk w b 49 [.int .u32 size, .int .u32 left, .int .u32 most, .int .i64 fresh, .int .i64 used]
def errV (ad : Nat → Addr) : Nat → Value
  | 0 => .nilIface
  | k + 1 => .iface 71 (.pointer (some (ad k)))

set_option maxHeartbeats 400000 in
theorem newRecv_ok (window most : Nat) (w : World) :
    Calls Tryd.prog 8 #[.int .u32 window, .int .u32 most] w fun e w' => e = .returned (.pointer (some ⟨w.heap.size, 0, none⟩)) ∧ Rc w' w.heap.size window window (max most 1) 0 0 ∧ Below w.heap.size w w' := by
  by_cases h : most < 1
  all_goals
    go_enter Tryd.func8, Tryd.ntmps8
    go_wp2
    go_ret
    refine ⟨rfl, ?_, (Below.refl _ _).alloc (Nat.le_refl _) _⟩
    first | rw [show max most 1 = 1 from by omega] | rw [show max most 1 = most from by omega]
    exact Blk.new _ _ _

set_option maxHeartbeats 400000 in
theorem recvLeft_ok (b size left most fresh used : Nat) (w : World) (h : Rc w b size left most fresh used) :
    Calls Tryd.prog 13 #[.pointer (some ⟨b, 0, none⟩)] w fun e w' => e = .returned (.int .u32 left) ∧ w = w' := by
  have c1 := Blk.cell h 1 _ rfl
  go_enter Tryd.func13, Tryd.ntmps13
  go_wp2
  go_ret
  exact ⟨rfl, rfl⟩

theorem nat_sub {a b : Nat} (h : b ≤ a) : ((a - b : Nat) : Int) = (a : Int) - b := by omega
theorem nat_add (a b : Nat) : ((a + b : Nat) : Int) = (a : Int) + b := by omega

set_option maxHeartbeats 1000000 in
theorem got_yes (b size left most fresh used k : Nat) (n : Int) (hn : n.toNat = k) (w : World) (h : Rc w b size left most fresh used) (hs : left < 4294967296) (hf : fresh + k < 4294967296) (hm : most < 4294967296) (hk : k ≤ left) (hk2 : k ≤ most) :
    Calls Tryd.prog 11 #[.pointer (some ⟨b, 0, none⟩), .int .i64 n] w fun e w' => e = .returned .nilIface ∧ Rc w' b size (left - k) most (fresh + k) used ∧ Only b w w' := by
  have c1 := Blk.cell h 1 _ rfl
  have c2 := Blk.cell h 2 _ rfl
  have c3 := Blk.cell h 3 _ rfl
  have f1 := Blk.free h 1
  have f3 := Blk.free h 3
  have H := Lib.hid h
  have gl : (0 : Int) ≤ left := by omega
  have gm : (0 : Int) ≤ most := by omega
  clear h
  rcases Int.lt_or_le n 0 with h0 | h0
  · obtain rfl : 0 = k := by omega
    have g1 : decide ((left : Int) < 0) = false := by simp
    have g2 : decide ((most : Int) < 0) = false := by simp
    clear hn
    go_enter Tryd.func11, Tryd.ntmps11
    go_wp2
    go_ret
    exact ⟨rfl, Blk.set (Blk.set H.out 1 (.int .u32 left)) 3 (.int .i64 fresh), (only_set _ _ _ _).set _ _⟩
  · obtain ⟨k', rfl⟩ := Int.eq_ofNat_of_zero_le h0
    obtain rfl : k' = k := by omega
    have g1 : decide (left < k') = false := by simp; omega
    have g2 : decide (most < k') = false := by simp; omega
    clear hn
    go_enter Tryd.func11, Tryd.ntmps11
    go_wp2
    go_ret
    refine ⟨rfl, ?_, (only_set _ _ _ _).set _ _⟩
    unfold Rc
    rw [nat_sub hk, nat_add]
    exact Blk.set (Blk.set H.out 1 _) 3 _

set_option maxHeartbeats 1000000 in
theorem got_no (ad : Nat → Addr) (b size left most fresh used k : Nat) (w : World) (h : Rc w b size left most fresh used) (hs : left < 4294967296) (hm : most < 4294967296) (hk : left < k ∨ most < k)
    (hw : w.cell? ⟨0, 0, none⟩ = some (.iface 71 (.pointer (some (ad 18))))) :
    Calls Tryd.prog 11 #[.pointer (some ⟨b, 0, none⟩), .int .i64 k] w fun e w' => e = .returned (.iface 71 (.pointer (some (ad 18)))) ∧ w = w' := by
  have c1 := Blk.cell h 1 _ rfl
  have c2 := Blk.cell h 2 _ rfl
  clear h
  by_cases hlt : left < k
  · have g1 : decide (left < k) = true := by simp; omega
    clear hk
    go_enter Tryd.func11, Tryd.ntmps11
    go_wp2
    go_ret
    exact ⟨rfl, rfl⟩
  · have g1 : decide (left < k) = false := by simp; omega
    have hlt2 : most < k := by omega
    have g2 : decide (most < k) = true := by simp; omega
    clear hk hlt
    go_enter Tryd.func11, Tryd.ntmps11
    go_wp2
    go_ret
    exact ⟨rfl, rfl⟩

/-- how many 'Used n' uses up of 'fresh' -/
def uses (n : Int) (fresh : Nat) : Nat := min n.toNat fresh
set_option maxHeartbeats 1000000 in
theorem used_ok (b size left most fresh used : Nat) (n : Int) (w : World) (h : Rc w b size left most fresh used) (hf : fresh + used < 4294967296) :
    Calls Tryd.prog 9 #[.pointer (some ⟨b, 0, none⟩), .int .i64 n] w fun e w' => e = .returned (.tuple #[]) ∧ Rc w' b size left most (fresh - uses n fresh) (used + uses n fresh) ∧ Only b w w' := by
  have c3 := Blk.cell h 3 _ rfl
  have c4 := Blk.cell h 4 _ rfl
  have f3 := Blk.free h 3
  have f4 := Blk.free h 4
  have H := Lib.hid h
  clear h
  rcases Int.lt_or_le 0 n with hn | hn
  · rcases Int.lt_or_le fresh n with hz | hz
    case inr =>
      obtain ⟨k, rfl⟩ := Int.eq_ofNat_of_zero_le (Int.le_of_lt hn)
      have hk : uses k fresh = k := by unfold uses; omega
      have HK := Lib.hid hk
      clear hk
      go_enter Tryd.func9, Tryd.ntmps9
      go_wp2
      go_end0
      refine ⟨rfl, ?_, (only_set _ _ _ _).set _ _⟩
      unfold Rc
      rw [HK.out, nat_sub (by omega), nat_add]
      exact Blk.set (Blk.set H.out 3 _) 4 _
    case inl =>
      have hk : uses n fresh = fresh := by unfold uses; omega
      have HK := Lib.hid hk
      clear hk
      go_enter Tryd.func9, Tryd.ntmps9
      go_wp2
      · go_end0
        refine ⟨rfl, ?_, (only_set _ _ _ _).set _ _⟩
        unfold Rc
        rw [HK.out, Nat.sub_self, nat_add]
        exact Blk.set (Blk.set H.out 3 (.int .i64 0)) 4 _
      · go_end0
        refine ⟨rfl, ?_, (only_set _ _ _ _).set _ _⟩
        unfold Rc
        have h0 : fresh = 0 := by omega
        rw [HK.out, h0] 
        rw [h0] at H
        exact Blk.set (Blk.set H.out 3 (.int .i64 0)) 4 (.int .i64 used)
  · have hk : uses n fresh = 0 := by unfold uses; omega
    have HK := Lib.hid hk
    clear hk
    go_enter Tryd.func9, Tryd.ntmps9
    go_wp2
    all_goals
      go_end0
      refine ⟨rfl, ?_, (only_set _ _ _ _).set _ _⟩
      unfold Rc
      rw [HK.out]
      exact Blk.set (Blk.set H.out 3 (.int .i64 fresh)) 4 (.int .i64 used)

/-- what 'Adjust' gives again -/
def gives (size used : Nat) : Nat := if 2 * used < size then 0 else used
set_option maxHeartbeats 1000000 in
theorem adjust_ok (b size left most fresh used : Nat) (w : World) (h : Rc w b size left most fresh used) (hs : size < 4294967296) (hf : left + used < 4294967296) :
    Calls Tryd.prog 10 #[.pointer (some ⟨b, 0, none⟩)] w fun e w' => e = .returned (.int .u32 (gives size used)) ∧ Rc w' b size (left + gives size used) most fresh (used - gives size used) ∧ Only b w w' := by
  have c0 := Blk.cell h 0 _ rfl
  have c1 := Blk.cell h 1 _ rfl
  have c4 := Blk.cell h 4 _ rfl
  have f1 := Blk.free h 1
  have f4 := Blk.free h 4
  have H := Lib.hid h
  clear h
  rcases Nat.eq_zero_or_pos used with rfl | hu
  · have g1 : (((0 : Nat) : Int) == 0) = true := by simp
    have HK := Lib.hid (show gives size 0 = 0 from by unfold gives; split <;> rfl)
    go_enter Tryd.func10, Tryd.ntmps10
    go_wp2
    go_quiet (fail)
    go_wp2
    go_ret
    rw [HK.out]
    exact ⟨rfl, H.out, (Only.refl _ _).drewN _⟩
  · have g1 : ((used : Int) == 0) = false := by simp; omega
    by_cases hz : 2 * used < size
    · have g2 : decide ((2 : Int) * used < size) = true := by simp; omega
      have HK := Lib.hid (show gives size used = 0 from by unfold gives; rw [if_pos hz])
      go_enter Tryd.func10, Tryd.ntmps10
      go_wp2
      go_quiet (fail)
      go_wp2
      go_ret
      rw [HK.out]
      exact ⟨rfl, H.out, (Only.refl _ _).drewN _⟩
    · have g2 : decide ((2 : Int) * used < size) = false := by simp; omega
      have HK := Lib.hid (show gives size used = used from by unfold gives; rw [if_neg hz])
      go_enter Tryd.func10, Tryd.ntmps10
      go_wp2
      go_quiet (fail)
      go_wp2
      go_ret
      rw [HK.out]
      refine ⟨rfl, ?_, (((Only.refl _ _).drewN _).set _ _).set _ _⟩
      unfold Rc
      rw [Nat.sub_self, nat_add]
      exact Blk.set (Blk.set (Blk.drew H.out _) 1 _) 4 (.int .i64 0)
end Go.Proofs.YtjecflcfjldkcaaDoor
