/-
A Wire's methods, whatever the way, up or down.
-/
import Derived.Test.YtbllecnhhcfcfaaDoorNetWire
import Derived.Test.YtbllecnhhcfcfaaDoorErrCode
import Derived.Test.YtbllecnhhcfcfaaDoorPlanT
namespace Go.Proofs.YtbllecnhhcfcfaaDoor
open Go.RowKit

def emp0 : ByteArray := ⟨#[]⟩
def svs (l : List ByteArray) : List Value := l.map fun s => Value.string s
theorem svs_get (l : List ByteArray) (i : Nat) (h : i < l.length) : (svs l)[i]? = some (.string (l.getD i emp0)) := by simp [svs, h]
theorem svs_set (l : List ByteArray) (i : Nat) (x : ByteArray) : (svs l).set i (.string x) = svs (l.set i x) := by simp [svs, List.map_set]
theorem svs_len (l : List ByteArray) : (svs l).length = l.length := by simp [svs]
/-- block b is a Wire: its ways, its room, whether it is down -/
structure WD (w : World) (b : Nat) (ls : List ByteArray) (room : Nat) (d : Bool) : Prop where
  blk : Blk w b 47 (svs ls ++ [.int .i64 room, .bool d])
  two : ls.length = 2
variable {w : World} {b : Nat} {ls : List ByteArray} {room : Nat} {d : Bool}
theorem WD.below {w' : World} {B : Nat} (h : WD w b ls room d) (hb : Below B w w') (hB : b < B) : WD w' b ls room d := ⟨h.blk.below hb hB, h.two⟩
theorem WD.keeps {w' : World} {F : Nat → Prop} (h : WD w b ls room d) (hk : Keeps F w w') (hF : ¬ F b) : WD w' b ls room d := ⟨hk.blk h.blk hF, h.two⟩
theorem WD.drew (h : WD w b ls room d) (n : Nat) : WD (w.drewN n) b ls room d := ⟨h.blk.drew n, h.two⟩
theorem WD.way (h : WD w b ls room d) (y : Nat) (hy : y < 2) : w.cell? ⟨b, y, none⟩ = some (.string (ls.getD y emp0)) :=
  h.blk.cell y _ (by rw [List.getElem?_append_left (by rw [svs_len, h.two]; exact hy), svs_get _ _ (by rw [h.two]; exact hy)])
theorem WD.croom (h : WD w b ls room d) : w.cell? ⟨b, 2, none⟩ = some (.int .i64 room) :=
  h.blk.cell 2 _ (by rw [List.getElem?_append_right (by rw [svs_len, h.two]; exact Nat.le_refl _), svs_len, h.two]; rfl)
theorem WD.down (h : WD w b ls room d) : w.cell? ⟨b, 3, none⟩ = some (.bool d) :=
  h.blk.cell 3 _ (by rw [List.getElem?_append_right (by rw [svs_len, h.two]; omega), svs_len, h.two]; rfl)
theorem WD.set (h : WD w b ls room d) (y : Nat) (hy : y < 2) (x : ByteArray) : WD (w.setCell ⟨b, y, none⟩ (.string x)) b (ls.set y x) room d := by
  refine ⟨?_, by rw [List.length_set]; exact h.two⟩
  have h1 := h.blk.set y (.string x)
  rwa [List.set_append, if_pos (by rw [svs_len, h.two]; exact hy), svs_set] at h1
/-- an error by its number -/
def errV (ad : Nat → Addr) (k : Nat) : Value := if k = 0 then .nilIface else .iface 66 (.pointer (some (ad (k - 1))))
def mayC (way : Int) (d : Bool) : Nat := if way < 0 ∨ 1 < way then 1 else if d then 18 else 0
theorem code_any (ad : Nat → Addr) (w : World) (hS : SentF w 66 errGs ad) (k : Nat) (hk : k ≤ 20) : Calls Tryd.prog 12 #[errV ad k] w fun e w' => e = .returned (.int .i64 (k : Nat)) ∧ w = w' := by
  unfold errV
  by_cases h : k = 0
  · rw [if_pos h, h]; exact code_nil w
  · rw [if_neg h]
    have := code_ok ad w hS (k - 1) (by omega)
    rwa [show k - 1 + 1 = k by omega] at this

set_option maxHeartbeats 400000 in
theorem may_any (ad : Nat → Addr) (hS : SentF w 66 errGs ad) (h : WD w b ls room d) (way : Int) :
    Calls Tryd.prog 17 #[.pointer (some ⟨b, 0, none⟩), .int .i64 way] w fun e w' => e = .returned (errV ad (mayC way d)) ∧ w = w' := by
  have c0 : w.cell? ⟨0, 0, none⟩ = some (.iface 66 (.pointer (some (ad 0)))) := hS.cell 0 (by decide)
  have c17 : w.cell? ⟨17, 0, none⟩ = some (.iface 66 (.pointer (some (ad 17)))) := hS.cell 17 (by decide)
  have cd := h.down
  unfold mayC
  clear hS h
  rcases Int.lt_or_le way 0 with h1 | h1
  · rw [if_pos (.inl h1)]
    go_enter Tryd.func17, Tryd.ntmps17
    go_wp2
    go_ret
    exact ⟨rfl, rfl⟩
  · rcases Int.lt_or_le 1 way with h2 | h2
    · rw [if_pos (.inr h2)]
      go_enter Tryd.func17, Tryd.ntmps17
      go_wp2
      go_ret
      exact ⟨rfl, rfl⟩
    · rw [if_neg (by omega)]
      cases d
      all_goals
        go_enter Tryd.func17, Tryd.ntmps17
        go_wp2
        go_ret
        exact ⟨rfl, rfl⟩

theorem errV_zero (ad : Nat → Addr) : errV ad 0 = .nilIface := rfl
theorem errV_pos (ad : Nat → Addr) (k : Nat) (h : k ≠ 0) : errV ad k = .iface 66 (.pointer (some (ad (k - 1)))) := if_neg h

/-! refused: nothing turns -/
set_option maxHeartbeats 400000 in
theorem put_no (ad : Nat → Addr) (hS : SentF w 66 errGs ad) (h : WD w b ls room d) (way : Int) (x : ByteArray) (hm : mayC way d ≠ 0) :
    Calls Tryd.prog 8 #[.pointer (some ⟨b, 0, none⟩), .int .i64 way, .string x] w fun e w' => e = .returned (.tuple #[.int .i64 0, errV ad (mayC way d)]) ∧ w = w' := by
  have M := may_any ad hS h way
  rw [errV_pos _ _ hm] at M ⊢
  clear hS h hm
  go_enter Tryd.func8, Tryd.ntmps8
  go_wp2_with fail
  refine M.mono ?_
  rintro e w' ⟨rfl, rfl⟩
  go_wp2_with fail
  go_ret2
  exact ⟨rfl, rfl⟩
set_option maxHeartbeats 400000 in
theorem take_no (ad : Nat → Addr) (hS : SentF w 66 errGs ad) (h : WD w b ls room d) (way n : Int) (hm : mayC way d ≠ 0) :
    Calls Tryd.prog 9 #[.pointer (some ⟨b, 0, none⟩), .int .i64 way, .int .i64 n] w fun e w' => e = .returned (.tuple #[.string ⟨#[]⟩, errV ad (mayC way d)]) ∧ w = w' := by
  have M := may_any ad hS h way
  rw [errV_pos _ _ hm] at M ⊢
  clear hS h hm
  go_enter Tryd.func9, Tryd.ntmps9
  go_wp2_with fail
  refine M.mono ?_
  rintro e w' ⟨rfl, rfl⟩
  go_wp2_with fail
  go_ret2
  exact ⟨rfl, rfl⟩
set_option maxHeartbeats 400000 in
theorem len_no (ad : Nat → Addr) (hS : SentF w 66 errGs ad) (h : WD w b ls room d) (way : Int) (hm : mayC way d ≠ 0) :
    Calls Tryd.prog 10 #[.pointer (some ⟨b, 0, none⟩), .int .i64 way] w fun e w' => e = .returned (.int .i64 0) ∧ w = w' := by
  have M := may_any ad hS h way
  rw [errV_pos _ _ hm] at M
  clear hS h hm
  go_enter Tryd.func10, Tryd.ntmps10
  go_wp2_with fail
  refine M.mono ?_
  rintro e w' ⟨rfl, rfl⟩
  go_wp2_with fail
  go_ret
  exact ⟨rfl, rfl⟩
set_option maxHeartbeats 400000 in
theorem room_no (ad : Nat → Addr) (hS : SentF w 66 errGs ad) (h : WD w b ls room d) (way : Int) (hm : mayC way d ≠ 0) :
    Calls Tryd.prog 15 #[.pointer (some ⟨b, 0, none⟩), .int .i64 way] w fun e w' => e = .returned (.int .i64 0) ∧ w = w' := by
  have M := may_any ad hS h way
  rw [errV_pos _ _ hm] at M
  clear hS h hm
  go_enter Tryd.func15, Tryd.ntmps15
  go_wp2_with fail
  refine M.mono ?_
  rintro e w' ⟨rfl, rfl⟩
  go_wp2_with fail
  go_ret
  exact ⟨rfl, rfl⟩
theorem mayC_ok (y : Nat) (hy : y < 2) : mayC (y : Int) false = 0 := by unfold mayC; rw [if_neg (by omega)]; rfl
theorem put_yes (h : WD w b ls room false) (y : Nat) (hy : y < 2) (x : ByteArray) (hr : room ≤ 16777216) (hs : (ls.getD y emp0).size ≤ room) :
    Calls Tryd.prog 8 #[.pointer (some ⟨b, 0, none⟩), .int .i64 y, .string x] w fun e w' => e = .returned (.tuple #[.int .i64 (min x.size (room - (ls.getD y emp0).size) : Nat), .nilIface]) ∧
      WD w' b (ls.set y (ls.getD y emp0 ++ x.extract 0 (room - (ls.getD y emp0).size))) room false ∧ Keeps (fun k => k = b) w w' := by
  refine (put_ok b y (by omega) (by omega) (ls.getD y emp0) x room (room - (ls.getD y emp0).size) w hr (by omega) (by omega) h.down h.croom (by simpa using h.way y hy) (by simpa using h.blk.free y)).mono ?_
  rintro e w' ⟨rfl, n, rfl⟩
  rw [Int.toNat_natCast]
  exact ⟨rfl, (h.set y hy _).drew n, ((Keeps.refl (fun k => k = b) w).set b y _ (fun _ => rfl)).drewN n⟩
theorem take_yes (h : WD w b ls room false) (y : Nat) (hy : y < 2) (n : Int) (hs : (ls.getD y emp0).size ≤ 16777216) :
    Calls Tryd.prog 9 #[.pointer (some ⟨b, 0, none⟩), .int .i64 y, .int .i64 n] w fun e w' => e = .returned (.tuple #[.string ((ls.getD y emp0).extract 0 (takes n (ls.getD y emp0))), .nilIface]) ∧
      WD w' b (ls.set y ((ls.getD y emp0).extract (takes n (ls.getD y emp0)) (ls.getD y emp0).size)) room false ∧ Keeps (fun k => k = b) w w' := by
  refine (take_ok b y (by omega) (by omega) n (ls.getD y emp0) w hs h.down (by simpa using h.way y hy) (by simpa using h.blk.free y)).mono ?_
  rintro e w' ⟨rfl, k, rfl⟩
  rw [Int.toNat_natCast]
  exact ⟨rfl, (h.set y hy _).drew k, ((Keeps.refl (fun k => k = b) w).set b y _ (fun _ => rfl)).drewN k⟩
theorem len_yes (h : WD w b ls room false) (y : Nat) (hy : y < 2) :
    Calls Tryd.prog 10 #[.pointer (some ⟨b, 0, none⟩), .int .i64 y] w fun e w' => e = .returned (.int .i64 (ls.getD y emp0).size) ∧ w = w' :=
  len_ok b y (by omega) (by omega) (ls.getD y emp0) w h.down (by simpa using h.way y hy)
theorem room_yes (h : WD w b ls room false) (y : Nat) (hy : y < 2) (hr : room ≤ 16777216) (hs : (ls.getD y emp0).size ≤ room) :
    Calls Tryd.prog 15 #[.pointer (some ⟨b, 0, none⟩), .int .i64 y] w fun e w' => e = .returned (.int .i64 (room - (ls.getD y emp0).size : Nat)) ∧ ∃ n, w.drewN n = w' :=
  room_ok b y (by omega) (by omega) (ls.getD y emp0) room (room - (ls.getD y emp0).size) w hr (by omega) (by omega) h.down h.croom (by simpa using h.way y hy)
theorem up_any (h : WD w b ls room d) : Calls Tryd.prog 16 #[.pointer (some ⟨b, 0, none⟩)] w fun e w' => e = .returned (.bool !d) ∧ w = w' := up_ok b w d h.down
set_option maxHeartbeats 400000 in
theorem lose_no (ad : Nat → Addr) (hS : SentF w 66 errGs ad) (h : WD w b ls room d) (way n : Int) (hm : mayC way d ≠ 0) :
    Calls Tryd.prog 14 #[.pointer (some ⟨b, 0, none⟩), .int .i64 way, .int .i64 n] w fun e w' => e = .returned (.tuple #[.int .i64 0, errV ad (mayC way d)]) ∧ w = w' := by
  have M := take_no ad hS h way n hm
  generalize errV ad (mayC way d) = ev at *
  clear hS h hm
  go_enter Tryd.func14, Tryd.ntmps14
  go_wp2_with fail
  refine M.mono ?_
  rintro e w' ⟨rfl, rfl⟩
  go_wp2_with fail
  go_ret2
  exact ⟨rfl, rfl⟩
theorem takes_size (n : Int) (s : ByteArray) : (s.extract 0 (takes n s)).size = takes n s := by rw [ByteArray.size_extract]; unfold takes; omega
set_option maxHeartbeats 400000 in
theorem lose_yes (h : WD w b ls room false) (y : Nat) (hy : y < 2) (n : Int) (hs : (ls.getD y emp0).size ≤ 16777216) :
    Calls Tryd.prog 14 #[.pointer (some ⟨b, 0, none⟩), .int .i64 y, .int .i64 n] w fun e w' => e = .returned (.tuple #[.int .i64 (takes n (ls.getD y emp0) : Nat), .nilIface]) ∧
      WD w' b (ls.set y ((ls.getD y emp0).extract (takes n (ls.getD y emp0)) (ls.getD y emp0).size)) room false ∧ Keeps (fun k => k = b) w w' := by
  have M := take_yes h y hy n hs
  have E := Lib.hid (takes_size n (ls.getD y emp0))
  generalize (ls.getD y emp0).extract 0 (takes n (ls.getD y emp0)) = t at *
  clear h
  go_enter Tryd.func14, Tryd.ntmps14
  go_wp2_with fail
  refine M.mono ?_
  rintro e w' ⟨rfl, hw, hk⟩
  have HW := Lib.hid hw
  have HK := Lib.hid hk
  clear hw hk M
  go_wp2_with fail
  go_ret2
  exact ⟨by first | rfl | (rw [E.out]; rfl), HW.out, HK.out⟩
end Go.Proofs.YtbllecnhhcfcfaaDoor
