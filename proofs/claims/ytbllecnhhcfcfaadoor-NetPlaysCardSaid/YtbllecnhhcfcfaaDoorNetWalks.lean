import Derived.Test.YtbllecnhhcfcfaaDoorRows
import Derived.Test.YtbllecnhhcfcfaaDoorCom
import Derived.Outline
namespace Go.Proofs.YtbllecnhhcfcfaaDoor
open Go.RowKit

def roomOf (room : Int) : Int := max 1 (min room 16777216)
set_option maxHeartbeats 400000 in
theorem new_any (room : Int) (w : World) :
    Calls Tryd.prog 7 #[.int .i64 room] w fun e w' => e = .returned (.pointer (some ⟨w.heap.size, 0, none⟩)) ∧
     w.alloc (.cells #[.string ⟨#[]⟩, .string ⟨#[]⟩, .int .i64 (roomOf room), .bool false] 47) = w' := by
  have h1 : 16777216 < room → roomOf room = 16777216 := by unfold roomOf; omega
  have h2 : room ≤ 16777216 → 1 < room → roomOf room = room := by unfold roomOf; omega
  have h3 : room ≤ 16777216 → room ≤ 1 → roomOf room = 1 := by unfold roomOf; omega
  have H1 := Lib.hid h1
  have H2 := Lib.hid h2
  have H3 := Lib.hid h3
  clear h1 h2 h3
  go_enter Tryd.func7, Tryd.ntmps7
  go_wp2
  · go_ret
    exact ⟨rfl, by rw [H1.out (by assumption)]⟩
  · go_ret
    exact ⟨rfl, by rw [H2.out (by assumption) (by assumption)]⟩
  · go_ret
    exact ⟨rfl, by rw [H3.out (by assumption) (by assumption)]⟩

set_option maxHeartbeats 400000 in
theorem may_ok (b : Nat) (way : Int) (h0 : 0 ≤ way) (h1 : way < 2) (w : World) (hc : w.cell? ⟨b, 3, none⟩ = some (.bool false)) :
    Calls Tryd.prog 17 #[.pointer (some ⟨b, 0, none⟩), .int .i64 way] w fun e w' => e = .returned .nilIface ∧ w = w' := by
  go_enter Tryd.func17, Tryd.ntmps17
  go_wp2
  go_ret
  exact ⟨rfl, rfl⟩

set_option maxHeartbeats 400000 in
theorem room_ok (b : Nat) (way : Int) (h0 : 0 ≤ way) (h1 : way < 2) (s : ByteArray) (room left : Nat) (w : World) (hr : room ≤ 16777216) (hl1 : room ≤ s.size + left) (hl2 : s.size + left ≤ room)
  (hc : w.cell? ⟨b, 3, none⟩ = some (.bool false)) (hcr : w.cell? ⟨b, 2, none⟩ = some (.int .i64 room)) (hcs : w.cell? ⟨b, way.toNat, none⟩ = some (.string s)) :
    Calls Tryd.prog 15 #[.pointer (some ⟨b, 0, none⟩), .int .i64 way] w fun e w' => e = .returned (.int .i64 left) ∧ ∃ n, w.drewN n = w' := by
  go_enter Tryd.func15, Tryd.ntmps15
  go_wp2_with (go_at_call 17; refine (may_ok _ _ (by omega) (by omega) _ (by assumption)).mono ?_; rintro e w' ⟨rfl, rfl⟩)
  go_quiet (fail)
  go_wp2
  go_ret
  exact ⟨ret_int (by omega), _, rfl⟩

set_option maxHeartbeats 400000 in
theorem put_ok (b : Nat) (way : Int) (h0 : 0 ≤ way) (h1 : way < 2) (s x : ByteArray) (room left : Nat) (w : World) (hr : room ≤ 16777216) (hl1 : room ≤ s.size + left) (hl2 : s.size + left ≤ room)
  (hc : w.cell? ⟨b, 3, none⟩ = some (.bool false)) (hcr : w.cell? ⟨b, 2, none⟩ = some (.int .i64 room)) (hcs : w.cell? ⟨b, way.toNat, none⟩ = some (.string s)) (hf : w.frozen? ⟨b, way.toNat, none⟩ = false) :
    Calls Tryd.prog 8 #[.pointer (some ⟨b, 0, none⟩), .int .i64 way, .string x] w fun e w' => e = .returned (.tuple #[.int .i64 (min x.size left : Nat), .nilIface]) ∧
      ∃ n, (w.setCell ⟨b, way.toNat, none⟩ (.string (s ++ x.extract 0 left))).drewN n = w' := by
  have H1 := Lib.hid (show x.size ≤ left → x.extract 0 left = x from fun h => by
    apply ByteArray.ext; simp [ByteArray.data_extract]; omega)
  have H2 := Lib.hid (show left < x.size → ((min x.size left : Nat) : Int) = (left : Int) from fun h => by omega)
  have H3 := Lib.hid (show x.size ≤ left → ((min x.size left : Nat) : Int) = (x.size : Int) from fun h => by omega)
  go_enter Tryd.func8, Tryd.ntmps8
  go_wp2_with (first | (go_at_call 17; refine (may_ok _ _ (by omega) (by omega) _ (by assumption)).mono ?_; rintro e w' ⟨rfl, rfl⟩) | (go_at_call 15; refine (room_ok _ _ (by omega) (by omega) s room left _ (by omega) (by omega) (by omega) (by assumption) (by assumption) (by assumption)).mono ?_; rintro e w' ⟨rfl, n, rfl⟩))
  · have hle : left ≤ x.size := by omega
    have hxs : (x.extract 0 left).size ≤ left := by simp [ByteArray.size_extract]; omega
    (refine still_tail 13 (by kernel_rfl) (by kernel_rfl) ?_; simp only [List.take_succ_cons, List.take_zero, List.drop_succ_cons, List.drop_zero]; repeat (refine wpStill_step (fun K hK => ?_); go_simp; (try go_ints); (try simp only [↓IntWalk.iteOmega, true_and]); (with_reducible apply hK); clear hK K)); refine wpStill_nil ?_
    go_wp2
    go_ret2
    rw [H2.out (by omega)]
    exact ⟨rfl, n + 1, rfl⟩
  · have hle : x.size ≤ left := by omega
    (refine still_tail 13 (by kernel_rfl) (by kernel_rfl) ?_; simp only [List.take_succ_cons, List.take_zero, List.drop_succ_cons, List.drop_zero]; repeat (refine wpStill_step (fun K hK => ?_); go_simp; (try go_ints); (try simp only [↓IntWalk.iteOmega, true_and]); (with_reducible apply hK); clear hK K)); refine wpStill_nil ?_
    go_wp2
    go_ret2
    rw [H3.out hle, H1.out hle]
    exact ⟨rfl, n + 1, rfl⟩

set_option maxHeartbeats 400000 in
theorem len_ok (b : Nat) (way : Int) (h0 : 0 ≤ way) (h1 : way < 2) (s : ByteArray) (w : World)
  (hc : w.cell? ⟨b, 3, none⟩ = some (.bool false)) (hcs : w.cell? ⟨b, way.toNat, none⟩ = some (.string s)) :
    Calls Tryd.prog 10 #[.pointer (some ⟨b, 0, none⟩), .int .i64 way] w fun e w' => e = .returned (.int .i64 s.size) ∧ w = w' := by
  go_enter Tryd.func10, Tryd.ntmps10
  go_wp2_with (go_at_call 17; refine (may_ok _ _ (by omega) (by omega) _ (by assumption)).mono ?_; rintro e w' ⟨rfl, rfl⟩)
  go_ret
  exact ⟨rfl, rfl⟩

set_option maxHeartbeats 400000 in
theorem up_ok (b : Nat) (w : World) (d : Bool) (hc : w.cell? ⟨b, 3, none⟩ = some (.bool d)) :
    Calls Tryd.prog 16 #[.pointer (some ⟨b, 0, none⟩)] w fun e w' => e = .returned (.bool !d) ∧ w = w' := by
  go_enter Tryd.func16, Tryd.ntmps16
  go_wp2
  go_ret
  exact ⟨rfl, rfl⟩

/-- how many bytes 'Take n' takes of 's' -/
def takes (n : Int) (s : ByteArray) : Nat := min n.toNat s.size
set_option maxHeartbeats 400000 in
theorem take_ok (b : Nat) (way : Int) (h0 : 0 ≤ way) (h1 : way < 2) (n : Int) (s : ByteArray) (w : World) (hs : s.size ≤ 16777216)
  (hc : w.cell? ⟨b, 3, none⟩ = some (.bool false)) (hcs : w.cell? ⟨b, way.toNat, none⟩ = some (.string s)) (hf : w.frozen? ⟨b, way.toNat, none⟩ = false) :
    Calls Tryd.prog 9 #[.pointer (some ⟨b, 0, none⟩), .int .i64 way, .int .i64 n] w fun e w' => e = .returned (.tuple #[.string (s.extract 0 (takes n s)), .nilIface]) ∧
      ∃ k, (w.setCell ⟨b, way.toNat, none⟩ (.string (s.extract (takes n s) s.size))).drewN k = w' := by
  rcases Nat.eq_zero_or_pos s.size with h00 | hpos
  · obtain rfl : s = ByteArray.empty := ByteArray.ext (by rw [ByteArray.size] at h00; exact Array.eq_empty_of_size_eq_zero h00)
    have HA := Lib.hid (show ByteArray.empty.extract 0 (takes n ByteArray.empty) = ByteArray.empty from by simp)
    have HB := Lib.hid (show ByteArray.empty.extract (takes n ByteArray.empty) ByteArray.empty.size = ByteArray.empty from by simp)
    clear h00
    have hz0 : (if ((0:Nat):Int) < n then (0:Int) else n) ≤ 0 := by split <;> omega
    rcases Int.lt_or_le 0 n with hn | hn
    all_goals
      go_enter Tryd.func9, Tryd.ntmps9
      go_wp2_with (go_at_call 17; refine (may_ok _ _ (by omega) (by omega) _ (by assumption)).mono ?_; rintro e w' ⟨rfl, rfl⟩)
      (refine still_tail 12 (by kernel_rfl) (by kernel_rfl) ?_; simp only [List.take_succ_cons, List.take_zero, List.drop_succ_cons, List.drop_zero]; repeat (refine wpStill_step (fun K hK => ?_); go_simp; (try go_ints); (try simp only [↓IntWalk.iteOmega, true_and]); (with_reducible apply hK); clear hK K)); refine wpStill_nil ?_
      go_wp2
      go_ret2
      rw [HA.out, HB.out]
      exact ⟨rfl, 1, rfl⟩
  rcases Int.lt_or_le 0 n with hn | hn
  · rcases Int.lt_or_le (s.size : Int) n with hz | hz
    · have HA := Lib.hid (show s.extract 0 (takes n s) = s from by
        have : takes n s = s.size := by unfold takes; omega
        rw [this]; simp)
      have HB := Lib.hid (show s.extract (takes n s) s.size = ByteArray.empty from by
        have : takes n s = s.size := by unfold takes; omega
        rw [this]; simp)
      go_enter Tryd.func9, Tryd.ntmps9
      go_wp2_with (go_at_call 17; refine (may_ok _ _ (by omega) (by omega) _ (by assumption)).mono ?_; rintro e w' ⟨rfl, rfl⟩)
      (refine still_tail 12 (by kernel_rfl) (by kernel_rfl) ?_; simp only [List.take_succ_cons, List.take_zero, List.drop_succ_cons, List.drop_zero]; repeat (refine wpStill_step (fun K hK => ?_); go_simp; (try go_ints); (try simp only [↓IntWalk.iteOmega, true_and]); (with_reducible apply hK); clear hK K)); refine wpStill_nil ?_
      go_wp2
      go_ret2
      rw [HA.out, HB.out]
      exact ⟨rfl, 1, rfl⟩
    · obtain ⟨k, rfl⟩ := Int.eq_ofNat_of_zero_le (Int.le_of_lt hn)
      have e : takes k s = k := by unfold takes; omega
      have HA := Lib.hid (show s.extract 0 (takes k s) = s.extract 0 k from by rw [e])
      have HB := Lib.hid (show s.extract (takes k s) s.size = s.extract k s.size from by rw [e])
      clear e
      go_enter Tryd.func9, Tryd.ntmps9
      go_wp2_with (go_at_call 17; refine (may_ok _ _ (by omega) (by omega) _ (by assumption)).mono ?_; rintro e w' ⟨rfl, rfl⟩)
      (refine still_tail 12 (by kernel_rfl) (by kernel_rfl) ?_; simp only [List.take_succ_cons, List.take_zero, List.drop_succ_cons, List.drop_zero]; repeat (refine wpStill_step (fun K hK => ?_); go_simp; (try go_ints); (try simp only [↓IntWalk.iteOmega, true_and]); (with_reducible apply hK); clear hK K)); refine wpStill_nil ?_
      go_wp2
      go_ret2
      rw [HA.out, HB.out]
      exact ⟨rfl, 1, rfl⟩
  · have e : takes n s = 0 := by unfold takes; omega
    have HA := Lib.hid (show s.extract 0 (takes n s) = ByteArray.empty from by rw [e]; simp)
    have HB := Lib.hid (show s.extract (takes n s) s.size = s from by rw [e]; simp)
    clear e
    go_enter Tryd.func9, Tryd.ntmps9
    go_wp2_with (go_at_call 17; refine (may_ok _ _ (by omega) (by omega) _ (by assumption)).mono ?_; rintro e w' ⟨rfl, rfl⟩)
    (refine still_tail 12 (by kernel_rfl) (by kernel_rfl) ?_; simp only [List.take_succ_cons, List.take_zero, List.drop_succ_cons, List.drop_zero]; repeat (refine wpStill_step (fun K hK => ?_); go_simp; (try go_ints); (try simp only [↓IntWalk.iteOmega, true_and]); (with_reducible apply hK); clear hK K)); refine wpStill_nil ?_
    go_wp2
    go_ret2
    rw [HA.out, HB.out]
    exact ⟨rfl, 1, rfl⟩

set_option maxHeartbeats 400000 in
theorem cut_ok (s : ByteArray) (n : Nat) (w : World) :
    Calls Tryd.prog 6 #[.string s, .int .i64 n] w fun e w' => e = .returned (.string (s.extract 0 n)) ∧ w = w' := by
  have H1 := Lib.hid (show s.size ≤ n → s.extract 0 n = s from fun h => by
    apply ByteArray.ext; simp [ByteArray.data_extract]; omega)
  go_enter Tryd.func6, Tryd.ntmps6
  go_wp2
  · go_ret
    exact ⟨rfl, rfl⟩
  · go_ret
    exact ⟨by rw [H1.out (by omega)]; rfl, rfl⟩
end Go.Proofs.YtbllecnhhcfcfaaDoor
