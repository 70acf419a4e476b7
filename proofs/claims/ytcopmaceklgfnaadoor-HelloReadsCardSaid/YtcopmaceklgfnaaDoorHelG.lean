/-
hello: Line, the document's Word; awake; how many others.
-/
import Derived.Test.YtcopmaceklgfnaaDoorHelA
import Derived.Test.YtcopmaceklgfnaaDoorCut
namespace Go.Proofs.YtcopmaceklgfnaaDoor
open Go.RowKit HelP
set_option maxRecDepth 100000
/-- a peer that was made after the sentinels reads -/
theorem feedN (ad : Nat → Addr) (w0 w : World) (h : Nat) (st : St) (l : List UInt8) (hl : l.length ≤ 2000) (hS : ES w0 ad) (hb : Below w0.heap.size w0 w) (hh : w0.heap.size ≤ h) (hH : HSt ad w h st) :
    Calls Tryd.prog 8 #[.pointer (some ⟨h, 0, none⟩), .string (bs l)] w fun e w' => e = .returned (.tuple #[.string (bs (run l st).2), resL ad (run l st).1]) ∧ HSt ad w' h (run l st).1 ∧ Below w0.heap.size w0 w' ∧ Keeps (fun k => k = h) w w' :=
  (feed_ok ad h st (bs l) (by rw [bs_size]; exact hl) w hH (hS.same hb) (hS.off hh)).mono (by
    rintro e w' ⟨rfl, h1, h2⟩
    exact ⟨rfl, h1, hb.trans (Keeps.below h2 hb.size (fun k hk e => by omega)), h2⟩)
theorem hline_ok (ad : Nat → Addr) (s : ByteArray) (hs : s.size ≤ 2000) (w : World) (hS : ES w ad) : Calls Tryd.prog 15 #[.string s] w fun e w' =>
    e = .returned (.tuple #[.string (bs (if wordL s.data.toList then now ++ s.data.toList ++ [13, 10] else [])), if wordL s.data.toList then .nilIface else errv ad 0]) ∧ Below w.heap.size w w' := by
  have e0 : w.cell? ⟨1, 0, none⟩ = some (errv ad 0) := hS.c0
  have hw := word_ok s hs w
  have h2 := bs_app (bs now).data.toList (bs s.data.toList).data.toList
  clear hS
  generalize hV : wordL s.data.toList = V at *
  have HW := Lib.hid hw
  clear hw hV
  cases V
  · go_enter Tryd.func15, Tryd.ntmps15
    go_upto_region 2 with (go_at_call 23; refine HW.out.mono ?_; rintro e w' ⟨rfl, rfl⟩)
    go_region
    go_wp2_with fail
    go_ret2
    exact ⟨rfl, below_drewN (Below.refl _ _) 1⟩
  · simp only [if_true]
    rw [← bs_app, ← bs_app, bs_of]
    go_enter Tryd.func15, Tryd.ntmps15
    go_wp2_with (go_at_call 23; refine HW.out.mono ?_; rintro e w' ⟨rfl, rfl⟩)
    go_ret2
    exact ⟨rfl, Below.refl _ _⟩
theorem rWord_ok (s : ByteArray) (hs : s.size ≤ 2000) (w : World) : Calls Tryd.prog 16 #[.string s] w fun e w' => e = .returned (.bool (wordL s.data.toList)) ∧ w = w' := by
  have HW := Lib.hid (rword_ok s hs w)
  go_enter Tryd.func16, Tryd.ntmps16
  go_wp2_with (go_at_call 21; refine HW.out.mono ?_; rintro e w' ⟨rfl, rfl⟩)
  go_ret
  exact ⟨rfl, rfl⟩
theorem more_ok (b : Bool) (w : World) : Calls Tryd.prog 12 #[.bool b] w fun e w' => e = .returned (.int .i64 ((if b then 16 else 0 : Nat) : Nat)) ∧ w = w' := by
  go_enter Tryd.func12, Tryd.ntmps12
  cases b
  · go_wp2_with fail
    go_ret
    exact ⟨rfl, rfl⟩
  · go_wp2_with fail
    go_ret
    exact ⟨rfl, rfl⟩
def awL : List UInt8 := [83, 83, 72, 45, 50, 46, 48, 45, 120, 13, 10, 97, 98]
def awP : List UInt8 := [83, 83, 72, 45, 50, 46, 48, 45, 120]
theorem aw_fact : run awL (.wait [] 0) = (.done awP, [97, 98]) := by rfl
set_option maxHeartbeats 2000000 in
theorem awake_ok (ad : Nat → Addr) (w : World) (hS : ES w ad) : Calls Tryd.prog 6 #[] w fun e w' => e = .returned (.bool true) ∧ Below w.heap.size w w' := by
  have HS := Lib.hid hS
  have HN := Lib.hid (hnew_ok false w)
  clear hS
  go_enter Tryd.func6, Tryd.ntmps6
  go_upto_region 4 with (go_at_call 7; refine HN.out.mono ?_; rintro e w1 ⟨rfl, hb, hbl⟩)
  have hf := feedN ad w w1 w.heap.size (.wait [] 0) awL (by decide) HS.out hbl (Nat.le_refl _) ⟨hb, by omega, by decide⟩
  rw [aw_fact] at hf
  have hf : Calls Tryd.prog 8 #[.pointer (some ⟨w.heap.size, 0, none⟩), .string { data := #[83, 83, 72, 45, 50, 46, 48, 45, 120, 13, 10, 97, 98] }] w1 fun e w' => e = .returned (.tuple #[.string { data := #[97, 98] }, .nilIface]) ∧ HSt ad w' w.heap.size (.done awP) ∧ Below w.heap.size w w' ∧ Keeps (fun k => k = w.heap.size) w1 w' := hf
  have HF := Lib.hid hf
  clear hf hb hbl
  go_upto_region 5 with (go_at_call 8; refine HF.out.mono ?_; rintro e w2 ⟨rfl, hH, hb2, _⟩)
  have hl : Calls Tryd.prog 15 #[.string { data := #[120] }] w2 fun e w' => e = .returned (.tuple #[.string { data := #[83, 83, 72, 45, 50, 46, 48, 45, 120, 13, 10] }, .nilIface]) ∧ Below w2.heap.size w2 w' := hline_ok ad { data := #[120] } (by decide) w2 (HS.out.same hb2)
  have HL := Lib.hid hl
  have HB2 := Lib.hid hb2
  have HH := Lib.hid hH
  clear hl hb2 hH
  go_upto_region 6 with (go_at_call 15; refine HL.out.mono ?_; rintro e w3 ⟨rfl, hb3⟩)
  obtain ⟨p, m, hH3⟩ := (HH.out.below hb3).1
  have hd := done_ok w.heap.size p awP m .nilIface w3 hH3
  have hp := peer_ok w.heap.size p awP m .nilIface w3 hH3
  have hd : Calls Tryd.prog 9 #[.pointer (some ⟨w.heap.size, 0, none⟩)] w3 fun e w' => e = .returned (.bool true) ∧ w3 = w' := hd
  have hp : Calls Tryd.prog 14 #[.pointer (some ⟨w.heap.size, 0, none⟩)] w3 fun e w' => e = .returned (.string { data := #[83, 83, 72, 45, 50, 46, 48, 45, 120] }) ∧ w3 = w' := hp
  have HD := Lib.hid hd
  have HP := Lib.hid hp
  have HB3 := Lib.hid (HB2.out.trans (hb3.mono HB2.out.size))
  clear hd hp hH3 hb3
  go_wp2_with (first | (go_at_call 9; refine HD.out.mono ?_; rintro e w' ⟨rfl, rfl⟩) | (go_at_call 14; refine HP.out.mono ?_; rintro e w' ⟨rfl, rfl⟩))
  go_ret
  exact ⟨rfl, HB3.out⟩
end Go.Proofs.YtcopmaceklgfnaaDoor
