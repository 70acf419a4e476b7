/-
The contracts of a Wire's methods, said of the whole block; the opening fact of the law; NetOrder.
-/
import Derived.Test.YtbllecnhhcfcfaaDoorNetWalks
import Derived.LoopTactic
import Derived.Outline
namespace Go.Proofs.YtbllecnhhcfcfaaDoor
open Go.RowKit

def wireCells (s t : ByteArray) (room : Nat) : Obj := .cells #[.string s, .string t, .int .i64 room, .bool false] 47 (0, 0)
/-- block b is a Wire that is up -/
def Wire (w : World) (b : Nat) (s t : ByteArray) (room : Nat) : Prop := w.heap[b]? = some (wireCells s t room)
theorem Wire.lt {w : World} {b : Nat} {s t : ByteArray} {room : Nat} (h : Wire w b s t room) : b < w.heap.size := by
  rcases Nat.lt_or_ge b w.heap.size with h' | h'
  · exact h'
  · unfold Wire at h; rw [Array.getElem?_eq_none h'] at h; cases h
theorem Wire.cells {w : World} {b : Nat} {s t : ByteArray} {room : Nat} (h : Wire w b s t room) :
    w.cell? ⟨b, 0, none⟩ = some (.string s) ∧ w.cell? ⟨b, 1, none⟩ = some (.string t) ∧ w.cell? ⟨b, 2, none⟩ = some (.int .i64 room) ∧ w.cell? ⟨b, 3, none⟩ = some (.bool false) ∧
      w.frozen? ⟨b, 0, none⟩ = false ∧ w.frozen? ⟨b, 1, none⟩ = false := by
  unfold Wire wireCells at h
  simp [World.cell?, World.frozen?, h]
theorem Wire.drew {w : World} {b : Nat} {s t : ByteArray} {room : Nat} (h : Wire w b s t room) (n : Nat) : Wire (w.drewN n) b s t room := h
theorem Wire.set0 {w : World} {b : Nat} {s t : ByteArray} {room : Nat} (h : Wire w b s t room) (x : ByteArray) : Wire (w.setCell ⟨b, 0, none⟩ (.string x)) b x t room := by
  unfold Wire wireCells at *
  simp [World.setCell, Array.getElem?_modify, h]
theorem Wire.set1 {w : World} {b : Nat} {s t : ByteArray} {room : Nat} (h : Wire w b s t room) (x : ByteArray) : Wire (w.setCell ⟨b, 1, none⟩ (.string x)) b s x room := by
  unfold Wire wireCells at *
  simp [World.setCell, Array.getElem?_modify, h]

theorem set_below (w : World) (b o : Nat) (v : Value) : Below b w (w.setCell ⟨b, o, none⟩ v) := (Below.refl b w).setCell (p := ⟨b, o, none⟩) (Nat.le_refl b) v

def roomN (room : Int) : Nat := (max 1 (min room 16777216)).toNat
theorem roomN_of (room : Int) : roomOf room = (roomN room : Int) := by unfold roomOf roomN; omega
theorem new_w (room : Int) (w : World) :
    Calls Tryd.prog 7 #[.int .i64 room] w fun e w' => e = .returned (.pointer (some ⟨w.heap.size, 0, none⟩)) ∧ Wire w' w.heap.size ⟨#[]⟩ ⟨#[]⟩ (roomN room) ∧ Below w.heap.size w w' := by
  refine (new_any room w).mono ?_
  rintro e w' ⟨rfl, rfl⟩
  refine ⟨rfl, ?_, (Below.refl _ _).alloc (Nat.le_refl _) _⟩
  rw [roomN_of]
  exact (MapKept.heap_alloc w _).1

theorem put0_w (b : Nat) (s t x : ByteArray) (room : Nat) (w : World) (hr : room ≤ 16777216) (hs : s.size ≤ room) (h : Wire w b s t room) :
    Calls Tryd.prog 8 #[.pointer (some ⟨b, 0, none⟩), .int .i64 0, .string x] w fun e w' => e = .returned (.tuple #[.int .i64 (min x.size (room - s.size) : Nat), .nilIface]) ∧
      Wire w' b (s ++ x.extract 0 (room - s.size)) t room ∧ Below b w w' := by
  obtain ⟨c0, c1, c2, c3, f0, f1⟩ := h.cells
  refine (put_ok b 0 (by omega) (by omega) s x room (room - s.size) w hr (by omega) (by omega) c3 c2 c0 f0).mono ?_
  rintro e w' ⟨rfl, n, rfl⟩
  exact ⟨rfl, (h.set0 _).drew n, below_drewN (set_below _ _ _ _) n⟩
theorem put1_w (b : Nat) (s t x : ByteArray) (room : Nat) (w : World) (hr : room ≤ 16777216) (ht : t.size ≤ room) (h : Wire w b s t room) :
    Calls Tryd.prog 8 #[.pointer (some ⟨b, 0, none⟩), .int .i64 1, .string x] w fun e w' => e = .returned (.tuple #[.int .i64 (min x.size (room - t.size) : Nat), .nilIface]) ∧
      Wire w' b s (t ++ x.extract 0 (room - t.size)) room ∧ Below b w w' := by
  obtain ⟨c0, c1, c2, c3, f0, f1⟩ := h.cells
  refine (put_ok b 1 (by omega) (by omega) t x room (room - t.size) w hr (by omega) (by omega) c3 c2 c1 f1).mono ?_
  rintro e w' ⟨rfl, n, rfl⟩
  exact ⟨rfl, (h.set1 _).drew n, below_drewN (set_below _ _ _ _) n⟩
theorem take0_w (b : Nat) (n : Int) (s t : ByteArray) (room : Nat) (w : World) (hr : room ≤ 16777216) (hs : s.size ≤ room) (h : Wire w b s t room) :
    Calls Tryd.prog 9 #[.pointer (some ⟨b, 0, none⟩), .int .i64 0, .int .i64 n] w fun e w' => e = .returned (.tuple #[.string (s.extract 0 (takes n s)), .nilIface]) ∧
      Wire w' b (s.extract (takes n s) s.size) t room ∧ Below b w w' := by
  obtain ⟨c0, c1, c2, c3, f0, f1⟩ := h.cells
  refine (take_ok b 0 (by omega) (by omega) n s w (by omega) c3 c0 f0).mono ?_
  rintro e w' ⟨rfl, k, rfl⟩
  exact ⟨rfl, (h.set0 _).drew k, below_drewN (set_below _ _ _ _) k⟩
theorem take1_w (b : Nat) (n : Int) (s t : ByteArray) (room : Nat) (w : World) (hr : room ≤ 16777216) (ht : t.size ≤ room) (h : Wire w b s t room) :
    Calls Tryd.prog 9 #[.pointer (some ⟨b, 0, none⟩), .int .i64 1, .int .i64 n] w fun e w' => e = .returned (.tuple #[.string (t.extract 0 (takes n t)), .nilIface]) ∧
      Wire w' b s (t.extract (takes n t) t.size) room ∧ Below b w w' := by
  obtain ⟨c0, c1, c2, c3, f0, f1⟩ := h.cells
  refine (take_ok b 1 (by omega) (by omega) n t w (by omega) c3 c1 f1).mono ?_
  rintro e w' ⟨rfl, k, rfl⟩
  exact ⟨rfl, (h.set1 _).drew k, below_drewN (set_below _ _ _ _) k⟩
theorem len0_w (b : Nat) (s t : ByteArray) (room : Nat) (w : World) (h : Wire w b s t room) :
    Calls Tryd.prog 10 #[.pointer (some ⟨b, 0, none⟩), .int .i64 0] w fun e w' => e = .returned (.int .i64 s.size) ∧ w = w' :=
  len_ok b 0 (by omega) (by omega) s w h.cells.2.2.2.1 h.cells.1
theorem len1_w (b : Nat) (s t : ByteArray) (room : Nat) (w : World) (h : Wire w b s t room) :
    Calls Tryd.prog 10 #[.pointer (some ⟨b, 0, none⟩), .int .i64 1] w fun e w' => e = .returned (.int .i64 t.size) ∧ w = w' :=
  len_ok b 1 (by omega) (by omega) t w h.cells.2.2.2.1 h.cells.2.1
theorem room0_w (b : Nat) (s t : ByteArray) (room : Nat) (w : World) (hr : room ≤ 16777216) (hs : s.size ≤ room) (h : Wire w b s t room) :
    Calls Tryd.prog 15 #[.pointer (some ⟨b, 0, none⟩), .int .i64 0] w fun e w' => e = .returned (.int .i64 (room - s.size : Nat)) ∧ Wire w' b s t room ∧ Below b w w' := by
  refine (room_ok b 0 (by omega) (by omega) s room (room - s.size) w hr (by omega) (by omega) h.cells.2.2.2.1 h.cells.2.2.1 h.cells.1).mono ?_
  rintro e w' ⟨rfl, k, rfl⟩
  exact ⟨rfl, h.drew k, below_drewN (Below.refl _ _) k⟩
theorem room1_w (b : Nat) (s t : ByteArray) (room : Nat) (w : World) (hr : room ≤ 16777216) (ht : t.size ≤ room) (h : Wire w b s t room) :
    Calls Tryd.prog 15 #[.pointer (some ⟨b, 0, none⟩), .int .i64 1] w fun e w' => e = .returned (.int .i64 (room - t.size : Nat)) ∧ Wire w' b s t room ∧ Below b w w' := by
  refine (room_ok b 1 (by omega) (by omega) t room (room - t.size) w hr (by omega) (by omega) h.cells.2.2.2.1 h.cells.2.2.1 h.cells.2.1).mono ?_
  rintro e w' ⟨rfl, k, rfl⟩
  exact ⟨rfl, h.drew k, below_drewN (Below.refl _ _) k⟩
theorem up_w (b : Nat) (s t : ByteArray) (room : Nat) (w : World) (h : Wire w b s t room) :
    Calls Tryd.prog 16 #[.pointer (some ⟨b, 0, none⟩)] w fun e w' => e = .returned (.bool true) ∧ w = w' :=
  up_ok b w false h.cells.2.2.2.1

set_option maxHeartbeats 400000 in
theorem awake_ok (w : World) :
    Calls Tryd.prog 5 #[] w fun e w' => e = .returned (.bool true) ∧ Below w.heap.size w w' := by
  go_enter Tryd.func5, Tryd.ntmps5
  go_wp2_with fail
  refine (new_w 2 _).mono ?_
  rintro e w1 ⟨rfl, hw1, hb1⟩
  go_wp2_with fail
  refine ((put0_w _ ⟨#[]⟩ ⟨#[]⟩ ⟨#[97, 98, 99]⟩ 2 _ (by omega) (by decide) hw1).mono (R' := fun e w' => e = .returned (.tuple #[.int .i64 2, .nilIface]) ∧ Wire w' w.heap.size ⟨#[97, 98]⟩ ⟨#[]⟩ 2 ∧ Below w.heap.size w1 w') (fun e w' h => ⟨h.1, h.2.1, h.2.2⟩)).mono ?_
  rintro e w2 ⟨rfl, hw2, hb2⟩
  go_wp2_with fail
  refine ((take0_w _ 1 _ _ 2 _ (by omega) (by decide) hw2).mono (R' := fun e w' => e = .returned (.tuple #[.string ⟨#[97]⟩, .nilIface]) ∧ Wire w' w.heap.size ⟨#[98]⟩ ⟨#[]⟩ 2 ∧ Below w.heap.size w2 w') (fun e w' h => ⟨h.1, h.2.1, h.2.2⟩)).mono ?_
  rintro e w3 ⟨rfl, hw3, hb3⟩
  go_wp2_with fail
  refine (up_w _ _ _ _ _ hw3).mono ?_
  rintro e w4 ⟨rfl, rfl⟩
  go_wp2_with fail
  refine ((room0_w _ _ _ 2 _ (by omega) (by decide) hw3).mono (R' := fun e w' => e = .returned (.int .i64 1) ∧ Wire w' w.heap.size ⟨#[98]⟩ ⟨#[]⟩ 2 ∧ Below w.heap.size w3 w') (fun e w' h => ⟨h.1, h.2.1, h.2.2⟩)).mono ?_
  rintro e w5 ⟨rfl, hw5, hb5⟩
  go_wp2_with fail
  refine ((room1_w _ _ _ 2 _ (by omega) (by decide) hw5).mono (R' := fun e w' => e = .returned (.int .i64 2) ∧ Wire w' w.heap.size ⟨#[98]⟩ ⟨#[]⟩ 2 ∧ Below w.heap.size w5 w') (fun e w' h => ⟨h.1, h.2.1, h.2.2⟩)).mono ?_
  rintro e w6 ⟨rfl, hw6, hb6⟩
  go_wp2_with fail
  go_ret
  exact ⟨rfl, ((((hb1.trans hb2).trans hb3).trans hb5).trans hb6)⟩
end Go.Proofs.YtbllecnhhcfcfaaDoor
