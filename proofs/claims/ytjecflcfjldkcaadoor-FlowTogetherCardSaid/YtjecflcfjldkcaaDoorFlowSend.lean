/-
The contracts of flow's Send and Buffer.
-/
import Derived.Test.YtjecflcfjldkcaaDoorFlowWalks
namespace Go.Proofs.YtjecflcfjldkcaaDoor
open Go.RowKit

def Sd (w : World) (b left most : Nat) : Prop := Blk w b 55 [.int .u32 left, .int .u32 most]
theorem Sd_of {w : World} {b left most y : Nat} {x : Int} (h : Blk w b 55 ([Value.int .u32 left, .int .u32 most].set 0 (.int .u32 x))) (e : x = (y : Int)) : Sd w b y most := by
  subst e; exact h

set_option maxHeartbeats 400000 in
theorem newSend_ok (window most : Nat) (w : World) :
    Calls Tryd.prog 20 #[.int .u32 window, .int .u32 most] w fun e w' => e = .returned (.pointer (some ⟨w.heap.size, 0, none⟩)) ∧ Sd w' w.heap.size window (max most 1) ∧ Below w.heap.size w w' := by
  by_cases h : most < 1
  all_goals
    go_enter Tryd.func20, Tryd.ntmps20
    go_wp2
    go_ret
    refine ⟨rfl, ?_, (Below.refl _ _).alloc (Nat.le_refl _) _⟩
    first | rw [show max most 1 = 1 from by omega] | rw [show max most 1 = most from by omega]
    exact Blk.new _ _ _

set_option maxHeartbeats 400000 in
theorem sendLeft_ok (b left most : Nat) (w : World) (h : Sd w b left most) :
    Calls Tryd.prog 23 #[.pointer (some ⟨b, 0, none⟩)] w fun e w' => e = .returned (.int .u32 left) ∧ w = w' := by
  have c0 := Blk.cell h 0 _ rfl
  go_enter Tryd.func23, Tryd.ntmps23
  go_wp2
  go_ret
  exact ⟨rfl, rfl⟩

set_option maxHeartbeats 400000 in
theorem grow_yes (b left most n : Nat) (w : World) (h : Sd w b left most) (hn : left + n < 4294967296) :
    Calls Tryd.prog 21 #[.pointer (some ⟨b, 0, none⟩), .int .u32 n] w fun e w' => e = .returned .nilIface ∧ Sd w' b (left + n) most ∧ Only b w w' := by
  have c0 := Blk.cell h 0 _ rfl
  have f0 := Blk.free h 0
  have H := Lib.hid h
  clear h
  go_enter Tryd.func21, Tryd.ntmps21
  go_wp2
  go_ret
  exact ⟨rfl, Sd_of (Blk.set H.out 0 _) (by omega), only_set _ _ _ _⟩

set_option maxHeartbeats 400000 in
theorem grow_no (ad : Nat → Addr) (b left most n : Nat) (w : World) (h : Sd w b left most) (hn : 4294967296 ≤ left + n) (hl : left < 4294967296)
    (hw : w.cell? ⟨0, 0, none⟩ = some (.iface 71 (.pointer (some (ad 18))))) :
    Calls Tryd.prog 21 #[.pointer (some ⟨b, 0, none⟩), .int .u32 n] w fun e w' => e = .returned (.iface 71 (.pointer (some (ad 18)))) ∧ w = w' := by
  have c0 := Blk.cell h 0 _ rfl
  clear h
  go_enter Tryd.func21, Tryd.ntmps21
  go_wp2
  go_ret
  exact ⟨rfl, rfl⟩

/-- how many 'Take n' takes -/
def sends (n : Int) (left most : Nat) : Nat := min n.toNat (min left most)
set_option maxHeartbeats 1000000 in
theorem sendTake_ok (b left most : Nat) (n : Int) (w : World) (h : Sd w b left most) (hl : left < 4294967296) (hm : most < 4294967296) :
    Calls Tryd.prog 22 #[.pointer (some ⟨b, 0, none⟩), .int .i64 n] w fun e w' => e = .returned (.int .i64 (sends n left most)) ∧ Sd w' b (left - sends n left most) most ∧ Only b w w' := by
  have c0 := Blk.cell h 0 _ rfl
  have c1 := Blk.cell h 1 _ rfl
  have f0 := Blk.free h 0
  have H := Lib.hid h
  clear h
  have fin : ∀ (x : Int) (v : Int) (k : Nat), x = (sends n left most : Int) → v = (left : Int) - sends n left most →
    Ending.returned (.int .i64 x) = .returned (.int .i64 (sends n left most)) ∧ Sd ((w.setCell ⟨b, 0, none⟩ (.int .u32 v)).drewN k) b (left - sends n left most) most ∧ Only b w ((w.setCell ⟨b, 0, none⟩ (.int .u32 v)).drewN k) :=
    fun x v k hx hv => ⟨ret_int hx, Blk.drew (Sd_of (Blk.set H.out 0 _) (by have : sends n left most ≤ left := (by unfold sends; omega); omega)) k, (only_set _ _ _ _).drewN k⟩
  have FIN := Lib.hid fin
  clear fin
  by_cases hlm : left ≤ most
  · rcases Int.lt_or_le 0 n with hn | hn
    · rcases Int.lt_or_le left n with hz | hz
      · rcases Nat.eq_zero_or_pos left with hl0 | hl0
        all_goals
          go_enter Tryd.func22, Tryd.ntmps22
          go_wp2
          go_quiet (fail)
          go_wp2
          go_ret
          exact FIN.out _ _ _ (by unfold sends; omega) (by unfold sends; omega)
      · skip
        go_enter Tryd.func22, Tryd.ntmps22
        go_wp2
        go_quiet (fail)
        go_wp2
        go_ret
        exact FIN.out _ _ _ (by unfold sends; omega) (by unfold sends; omega)
    · skip
      focus
        go_enter Tryd.func22, Tryd.ntmps22
        go_wp2
        go_quiet (fail)
        go_wp2
        go_ret
        exact FIN.out _ _ _ (by unfold sends; omega) (by unfold sends; omega)
  · rcases Int.lt_or_le 0 n with hn | hn
    · rcases Int.lt_or_le most n with hz | hz
      · rcases Nat.eq_zero_or_pos most with hl0 | hl0
        all_goals
          rcases Int.lt_or_le left n with hy | hy
          all_goals
            go_enter Tryd.func22, Tryd.ntmps22
            go_wp2
            go_quiet (fail)
            go_wp2
            go_ret
            exact FIN.out _ _ _ (by unfold sends; omega) (by unfold sends; omega)
      · skip
        go_enter Tryd.func22, Tryd.ntmps22
        go_wp2
        go_quiet (fail)
        go_wp2
        go_ret
        exact FIN.out _ _ _ (by unfold sends; omega) (by unfold sends; omega)
    · skip
      go_enter Tryd.func22, Tryd.ntmps22
      go_wp2
      go_quiet (fail)
      go_wp2
      go_ret
      exact FIN.out _ _ _ (by unfold sends; omega) (by unfold sends; omega)

theorem empty_extract (a b : Nat) : ByteArray.empty.extract a b = ByteArray.empty := by apply ByteArray.ext; simp [ByteArray.data_extract]
/-! ### Buffer -/
def Bf (w : World) (b : Nat) (s : ByteArray) (most : Nat) : Prop := Blk w b 53 [.string s, .int .i64 most]
def bufMost (most : Int) : Nat := (min most 16777216).toNat
set_option maxHeartbeats 400000 in
theorem newBuffer_ok (most : Int) (w : World) :
    Calls Tryd.prog 14 #[.int .i64 most] w fun e w' => e = .returned (.pointer (some ⟨w.heap.size, 0, none⟩)) ∧ Bf w' w.heap.size ⟨#[]⟩ (bufMost most) ∧ Below w.heap.size w w' := by
  have fin : ∀ x : Int, x = (bufMost most : Int) → Bf (w.alloc (.cells #[.string ⟨#[]⟩, .int .i64 x] 53)) w.heap.size ⟨#[]⟩ (bufMost most) := fun x hx => by subst hx; exact Blk.new _ _ _
  have FIN := Lib.hid fin
  clear fin
  rcases Int.lt_or_le 16777216 most with h | h
  · go_enter Tryd.func14, Tryd.ntmps14
    go_wp2
    go_ret
    exact ⟨rfl, FIN.out _ (by unfold bufMost; omega), (Below.refl _ _).alloc (Nat.le_refl _) _⟩
  · rcases Int.lt_or_le 0 most with h0 | h0
    all_goals
      go_enter Tryd.func14, Tryd.ntmps14
      go_wp2
      go_ret
      exact ⟨rfl, FIN.out _ (by unfold bufMost; omega), (Below.refl _ _).alloc (Nat.le_refl _) _⟩

set_option maxHeartbeats 400000 in
theorem bufLen_ok (b : Nat) (s : ByteArray) (most : Nat) (w : World) (h : Bf w b s most) :
    Calls Tryd.prog 18 #[.pointer (some ⟨b, 0, none⟩)] w fun e w' => e = .returned (.int .i64 s.size) ∧ w = w' := by
  have c0 := Blk.cell h 0 _ rfl
  go_enter Tryd.func18, Tryd.ntmps18
  go_wp2
  go_ret
  exact ⟨rfl, rfl⟩

set_option maxHeartbeats 400000 in
theorem bufRoom_ok (b : Nat) (s : ByteArray) (most : Nat) (w : World) (h : Bf w b s most) (hs : s.size ≤ most) (hm : most ≤ 16777216) :
    Calls Tryd.prog 19 #[.pointer (some ⟨b, 0, none⟩)] w fun e w' => e = .returned (.int .i64 (most - s.size : Nat)) ∧ Bf w' b s most ∧ Only b w w' ∧ ∃ n, w.drewN n = w' := by
  have c0 := Blk.cell h 0 _ rfl
  have c1 := Blk.cell h 1 _ rfl
  have H := Lib.hid h
  clear h
  go_enter Tryd.func19, Tryd.ntmps19
  go_wp2
  go_quiet (fail)
  go_wp2
  go_ret
  exact ⟨ret_int (by omega), H.out, (Only.refl _ _).drewN _, _, rfl⟩

set_option maxHeartbeats 400000 in
theorem bufPut_yes (b : Nat) (s x : ByteArray) (most : Nat) (w : World) (h : Bf w b s most) (hs : s.size + x.size ≤ most) (hm : most ≤ 16777216) :
    Calls Tryd.prog 17 #[.pointer (some ⟨b, 0, none⟩), .string x] w fun e w' => e = .returned .nilIface ∧ Bf w' b (s ++ x) most ∧ Only b w w' := by
  have H := Lib.hid h
  have c0 := Blk.cell h 0 _ rfl
  have f0 := Blk.free h 0
  clear h
  go_enter Tryd.func17, Tryd.ntmps17
  go_wp2_with fail
  refine (bufRoom_ok b s most _ H.out (by omega) hm).mono ?_
  rintro e w' ⟨rfl, _, _, n, rfl⟩
  go_wp2_with fail
  go_ret
  exact ⟨rfl, Blk.set (Blk.drew H.out n) 0 _, ((Only.refl _ _).drewN _).set _ _⟩

set_option maxHeartbeats 400000 in
theorem bufPut_no (ad : Nat → Addr) (b : Nat) (s x : ByteArray) (most : Nat) (w : World) (h : Bf w b s most) (hs : s.size ≤ most) (hx : most < s.size + x.size) (hm : most ≤ 16777216)
    (hw : w.cell? ⟨16, 0, none⟩ = some (.iface 71 (.pointer (some (ad 15))))) :
    Calls Tryd.prog 17 #[.pointer (some ⟨b, 0, none⟩), .string x] w fun e w' => e = .returned (.iface 71 (.pointer (some (ad 15)))) ∧ Bf w' b s most ∧ Only b w w' := by
  have H := Lib.hid h
  clear h
  go_enter Tryd.func17, Tryd.ntmps17
  go_wp2_with fail
  refine (bufRoom_ok b s most _ H.out (by omega) hm).mono ?_
  rintro e w' ⟨rfl, _, _, n, rfl⟩
  go_wp2_with fail
  go_ret
  exact ⟨rfl, Blk.drew H.out n, (Only.refl _ _).drewN _⟩

/-- how many bytes 'Take n' takes -/
def bufTakes (n : Int) (s : ByteArray) : Nat := min n.toNat s.size
set_option maxHeartbeats 1000000 in
theorem bufTake_ok (b : Nat) (s : ByteArray) (most : Nat) (n : Int) (w : World) (h : Bf w b s most) (hs : s.size ≤ 16777216) :
    Calls Tryd.prog 15 #[.pointer (some ⟨b, 0, none⟩), .int .i64 n] w fun e w' => e = .returned (.string (s.extract 0 (bufTakes n s))) ∧ Bf w' b (s.extract (bufTakes n s) s.size) most ∧ Only b w w' := by
  have c0 := Blk.cell h 0 _ rfl
  have f0 := Blk.free h 0
  have H := Lib.hid h
  clear h
  have fin : ∀ (x y : ByteArray), x = s.extract 0 (bufTakes n s) → y = s.extract (bufTakes n s) s.size →
    Ending.returned (.string x) = .returned (.string (s.extract 0 (bufTakes n s))) ∧ Bf (w.setCell ⟨b, 0, none⟩ (.string y)) b (s.extract (bufTakes n s) s.size) most ∧ Only b w (w.setCell ⟨b, 0, none⟩ (.string y)) :=
    fun x y hx hy => ⟨ret_str hx, by rw [hy]; exact Blk.set H.out 0 _, only_set _ _ _ _⟩
  have FIN := Lib.hid fin
  clear fin
  rcases Nat.eq_zero_or_pos s.size with h00 | hpos
  · have hse : s = ByteArray.empty := ByteArray.ext (by rw [ByteArray.size] at h00; exact Array.eq_empty_of_size_eq_zero h00)
    have HS := Lib.hid hse
    have h0' : s.size ≤ 0 := by omega
    clear hse h00
    rcases Int.lt_or_le 0 n with hn | hn
    all_goals
      go_enter Tryd.func15, Tryd.ntmps15
      go_wp2
      go_ret
      first | exact FIN.out _ _ (by rw [HS.out, empty_extract]) (by rw [HS.out, empty_extract]) | exact FIN.out _ _ (by rw [HS.out, empty_extract, empty_extract]) (by rw [HS.out, empty_extract])
  · rcases Int.lt_or_le 0 n with hn | hn
    · rcases Int.lt_or_le (s.size : Int) n with hz | hz
      · have hk := Lib.hid (show bufTakes n s = s.size from by unfold bufTakes; omega)
        go_enter Tryd.func15, Tryd.ntmps15
        go_wp2
        go_ret
        exact FIN.out _ _ (by rw [hk.out]; simp) (by rw [hk.out]; simp)
      · obtain ⟨k, rfl⟩ := Int.eq_ofNat_of_zero_le (Int.le_of_lt hn)
        have hk := Lib.hid (show bufTakes k s = k from by unfold bufTakes; omega)
        go_enter Tryd.func15, Tryd.ntmps15
        go_wp2
        go_ret
        exact FIN.out _ _ (by rw [hk.out]) (by rw [hk.out])
    · have hk := Lib.hid (show bufTakes n s = 0 from by unfold bufTakes; omega)
      go_enter Tryd.func15, Tryd.ntmps15
      go_wp2
      go_ret
      exact FIN.out _ _ (by rw [hk.out]; simp) (by rw [hk.out]; simp)
end Go.Proofs.YtjecflcfjldkcaaDoor
