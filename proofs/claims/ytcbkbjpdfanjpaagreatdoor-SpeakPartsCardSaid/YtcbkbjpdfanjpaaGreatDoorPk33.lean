/-
hello: a version's line, a line.
-/
import Derived.Test.YtcbkbjpdfanjpaaGreatDoorPk32
namespace Go.Proofs.YtcbkbjpdfanjpaaGreatDoor
open Go.RowKit HelP
set_option maxRecDepth 100000
abbrev errv (ad : Nat → Addr) (i : Nat) : Value := .iface 182 (.pointer (some (ad i)))
/-- the four errors that this layer names -/
def esGs : List Nat := [0, 3, 2, 5]
structure ES (w : World) (ad : Nat → Addr) : Prop where
  c0 : w.cell? ⟨0, 0, none⟩ = some (errv ad 0)
  c2 : w.cell? ⟨3, 0, none⟩ = some (errv ad 2)
  c3 : w.cell? ⟨2, 0, none⟩ = some (errv ad 3)
  c11 : w.cell? ⟨5, 0, none⟩ = some (errv ad 11)
theorem ES.keeps {w w' : World} {ad : Nat → Addr} {F : Nat → Prop} (h : ES w ad) (hk : Keeps F w w') (hF : ∀ g ∈ esGs, ¬ F g) : ES w' ad :=
  ⟨hk.cell h.c0 (hF _ (by decide)), hk.cell h.c2 (hF _ (by decide)), hk.cell h.c3 (hF _ (by decide)), hk.cell h.c11 (hF _ (by decide))⟩
theorem ES.same {w w' : World} {ad : Nat → Addr} (h : ES w ad) (hb : Below w.heap.size w w') : ES w' ad := h.keeps (Keeps.of_below (F := fun _ => False) hb) (fun _ _ e => e)
theorem ES.off {w : World} {ad : Nat → Addr} (h : ES w ad) {b : Nat} (hb : w.heap.size ≤ b) : ∀ g ∈ esGs, g ≠ b := by
  have key : ∀ {g : Nat} {v : Value}, w.cell? ⟨g, 0, none⟩ = some v → g ≠ b := by
    intro g v hp e
    rw [e] at hp
    simp [World.cell?, Array.getElem?_eq_none hb] at hp
  intro g hg
  simp only [esGs, List.mem_cons, List.not_mem_nil, or_false] at hg
  rcases hg with rfl | rfl | rfl | rfl
  · exact key h.c0
  · exact key h.c2
  · exact key h.c3
  · exact key h.c11
theorem cp_now (s : ByteArray) (w : World) : Calls Tryz.prog 98 #[.string s, .string { data := #[83, 83, 72, 45, 50, 46, 48, 45] }] w fun e w' => e = .returned (.tuple #[.string (bs (if now.isPrefixOf s.data.toList then s.data.toList.drop 8 else s.data.toList)), .bool (now.isPrefixOf s.data.toList)]) ∧ w = w' :=
  (Sh.strings_CutPrefix s { data := #[83, 83, 72, 45, 50, 46, 48, 45] } w).mono (by rintro e w' ⟨rfl, rfl⟩; exact ⟨rfl, rfl⟩)
theorem cp_old (s : ByteArray) (w : World) : Calls Tryz.prog 98 #[.string s, .string { data := #[83, 83, 72, 45, 49, 46, 57, 57, 45] }] w fun e w' => e = .returned (.tuple #[.string (bs (if old.isPrefixOf s.data.toList then s.data.toList.drop 9 else s.data.toList)), .bool (old.isPrefixOf s.data.toList)]) ∧ w = w' :=
  (Sh.strings_CutPrefix s { data := #[83, 83, 72, 45, 49, 46, 57, 57, 45] } w).mono (by rintro e w' ⟨rfl, rfl⟩; exact ⟨rfl, rfl⟩)
theorem cutE (s : ByteArray) (c : UInt8) (hs : s.size ≤ 5000000) (w : World) : Calls Tryz.prog 43 #[.string s, .string ⟨#[c]⟩] w fun e w' => ∃ B D, e = .returned (.tuple #[.string (bs (upTo c s.data.toList)), .string B, .bool D]) ∧ Below w.heap.size w w' :=
  (cut1_ok s c hs w).mono (by rintro e w' ⟨rfl, hb⟩; exact ⟨_, _, rfl, hb⟩)
set_option maxHeartbeats 2000000 in
theorem version_ok (ad : Nat → Addr) (h : Nat) (p : List UInt8) (m : Nat) (ev : Value) (s : ByteArray) (hs : s.size ≤ 2000) (w : World) (hB : HB w h p m [] ev) (hS : ES w ad) :
    Calls Tryz.prog 76 #[.pointer (some ⟨h, 0, none⟩), .string s] w fun e w' => e = .returned (if verOk s.data.toList then .nilIface else errv ad 11) ∧ HB w' h p m (if verOk s.data.toList then s.data.toList else []) ev ∧ Keeps (fun k => k = h) w w' := by
  have HH := Lib.hid hB
  have HS := Lib.hid hS
  clear hB hS
  by_cases hn : now.isPrefixOf s.data.toList = true
  · have hv : verOk s.data.toList = wordL (upTo 32 (s.data.toList.drop 8)) := by unfold verOk; rw [if_pos hn]
    have hc := cp_now s w
    rw [hn] at hc
    simp only [if_true] at hc
    have HC := Lib.hid hc
    clear hc hn
    have hlen : s.data.toList.length = s.size := Array.length_toList
    have hct := cutE (bs (s.data.toList.drop 8)) 32 (by rw [bs_size, List.length_drop]; omega) w
    have hw := fun w' => word_ok (bs (upTo 32 (s.data.toList.drop 8))) (by
      rw [bs_size]
      have h1 := congrArg List.length (upTo_take 32 (s.data.toList.drop 8))
      rw [List.length_take, List.length_drop] at h1
      omega) w'
    rw [bs_l] at hct
    simp only [bs_l, ← hv] at hw
    have HCT := Lib.hid hct
    have HW := Lib.hid hw
    obtain ⟨V, hV⟩ : ∃ V, V = verOk s.data.toList := ⟨_, rfl⟩
    rw [← hV] at HW ⊢
    clear hct hw hv hlen hV
    go_enter Tryz.func76, Tryz.ntmps76
    go_upto_region 5 with (first | (go_at_call 98; with_reducible refine HC.out.mono ?_; rintro e w' ⟨rfl, rfl⟩) | (go_at_call 43; refine HCT.out.mono ?_; rintro e w2 ⟨B, D, rfl, hb2⟩))
    have HH2 := Lib.hid (show HB w2 h p m [] ev from HH.out.below hb2 HH.out.lt)
    have HK2 := Lib.hid (Keeps.of_below (F := fun k => k = h) hb2)
    have ce : w2.cell? ⟨5, 0, none⟩ = some (errv ad 11) := (HS.out.same hb2).c11
    have c2 := HH2.out.cell 2 _ rfl
    have f2 := HH2.out.free 2
    clear hb2
    cases V
    · go_wp2_with (go_at_call 19; refine (HW.out _).mono ?_; rintro e w3 ⟨rfl, rfl⟩)
      go_ret
      exact ⟨rfl, HH2.out, HK2.out⟩
    · have HS2 := Lib.hid (show HB (w2.setCell ⟨h, 2, none⟩ (.string s)) h p m s.data.toList ev by
        have e := HH2.out.set 2 (.string s)
        unfold HB
        rw [bs_of]
        exact e)
      have HK3 := Lib.hid (HK2.out.set h 2 (.string s) (fun _ => rfl))
      go_wp2_with (go_at_call 19; refine (HW.out _).mono ?_; rintro e w3 ⟨rfl, rfl⟩)
      go_ret
      exact ⟨rfl, HS2.out, HK3.out⟩
  · have hn : now.isPrefixOf s.data.toList = false := Bool.eq_false_iff.2 hn
    by_cases ho : old.isPrefixOf s.data.toList = true
    · have hv : verOk s.data.toList = wordL (upTo 32 (s.data.toList.drop 9)) := by unfold verOk; rw [if_neg (by rw [hn]; simp), if_pos ho]
      have hc := cp_now s w
      rw [hn] at hc
      simp only [Bool.false_eq_true, if_false, bs_of] at hc
      have HC := Lib.hid hc
      have hc2 := cp_old s w
      rw [ho] at hc2
      simp only [if_true] at hc2
      have HC2 := Lib.hid hc2
      clear hc hc2 hn ho
      have hlen : s.data.toList.length = s.size := Array.length_toList
      have hct := cutE (bs (s.data.toList.drop 9)) 32 (by rw [bs_size, List.length_drop]; omega) w
      have hw := fun w' => word_ok (bs (upTo 32 (s.data.toList.drop 9))) (by
        rw [bs_size]
        have h1 := congrArg List.length (upTo_take 32 (s.data.toList.drop 9))
        rw [List.length_take, List.length_drop] at h1
        omega) w'
      rw [bs_l] at hct
      simp only [bs_l, ← hv] at hw
      have HCT := Lib.hid hct
      have HW := Lib.hid hw
      obtain ⟨V, hV⟩ : ∃ V, V = verOk s.data.toList := ⟨_, rfl⟩
      rw [← hV] at HW ⊢
      clear hct hw hv hlen hV
      go_enter Tryz.func76, Tryz.ntmps76
      go_upto_region 5 with (first | (go_at_call 98; with_reducible refine HC.out.mono ?_; rintro e w' ⟨rfl, rfl⟩) | (go_at_call 98; with_reducible refine HC2.out.mono ?_; rintro e w' ⟨rfl, rfl⟩) | (go_at_call 43; refine HCT.out.mono ?_; rintro e w2 ⟨B, D, rfl, hb2⟩))
      have HH2 := Lib.hid (show HB w2 h p m [] ev from HH.out.below hb2 HH.out.lt)
      have HK2 := Lib.hid (Keeps.of_below (F := fun k => k = h) hb2)
      have ce : w2.cell? ⟨5, 0, none⟩ = some (errv ad 11) := (HS.out.same hb2).c11
      have c2 := HH2.out.cell 2 _ rfl
      have f2 := HH2.out.free 2
      clear hb2
      cases V
      · go_wp2_with (go_at_call 19; refine (HW.out _).mono ?_; rintro e w3 ⟨rfl, rfl⟩)
        go_ret
        exact ⟨rfl, HH2.out, HK2.out⟩
      · have HS2 := Lib.hid (show HB (w2.setCell ⟨h, 2, none⟩ (.string s)) h p m s.data.toList ev by
          have e := HH2.out.set 2 (.string s)
          unfold HB
          rw [bs_of]
          exact e)
        have HK3 := Lib.hid (HK2.out.set h 2 (.string s) (fun _ => rfl))
        go_wp2_with (go_at_call 19; refine (HW.out _).mono ?_; rintro e w3 ⟨rfl, rfl⟩)
        go_ret
        exact ⟨rfl, HS2.out, HK3.out⟩
    · have ho : old.isPrefixOf s.data.toList = false := Bool.eq_false_iff.2 ho
      have hv : verOk s.data.toList = false := by unfold verOk; rw [if_neg (by rw [hn]; simp), if_neg (by rw [ho]; simp)]
      have hc := cp_now s w
      rw [hn] at hc
      simp only [Bool.false_eq_true, if_false, bs_of] at hc
      have HC := Lib.hid hc
      have hc2 := cp_old s w
      rw [ho] at hc2
      simp only [Bool.false_eq_true, if_false, bs_of] at hc2
      have HC2 := Lib.hid hc2
      have hct := cutE s 32 (by omega) w
      have HCT := Lib.hid hct
      rw [hv]
      clear hc hc2 hn ho hct hv
      go_enter Tryz.func76, Tryz.ntmps76
      go_upto_region 5 with (first | (go_at_call 98; with_reducible refine HC.out.mono ?_; rintro e w' ⟨rfl, rfl⟩) | (go_at_call 98; with_reducible refine HC2.out.mono ?_; rintro e w' ⟨rfl, rfl⟩) | (go_at_call 43; refine HCT.out.mono ?_; rintro e w2 ⟨B, D, rfl, hb2⟩))
      have HH2 := Lib.hid (show HB w2 h p m [] ev from HH.out.below hb2 HH.out.lt)
      have HK2 := Lib.hid (Keeps.of_below (F := fun k => k = h) hb2)
      have ce : w2.cell? ⟨5, 0, none⟩ = some (errv ad 11) := (HS.out.same hb2).c11
      clear hb2
      go_wp2_with fail
      go_ret
      exact ⟨rfl, HH2.out, HK2.out⟩
theorem has0 (s : ByteArray) (w : World) : Calls Tryz.prog 75 #[.string s, .string { data := #[0] }] w fun e w' => e = .returned (.bool (decide ((0 : UInt8) ∈ s.data.toList))) ∧ w = w' :=
  (Sh.strings_Contains_one s 0 w).mono (by
    rintro e w' ⟨rfl, rfl⟩
    refine ⟨?_, rfl⟩
    rw [ib_mem]
    refine congrArg Ending.returned (congrArg Value.bool ?_)
    rw [decide_eq_decide]
    by_cases h : (0 : UInt8) ∈ s.data.toList
    · rw [if_pos h]; exact ⟨fun _ => h, fun _ => by omega⟩
    · rw [if_neg h]; exact ⟨fun h' => absurd h' (by omega), fun h' => absurd h' h⟩)
theorem hasS (s : ByteArray) (w : World) : Calls Tryz.prog 63 #[.string s, .string { data := #[83, 83, 72, 45] }] w fun e w' => e = .returned (.bool (ssh.isPrefixOf s.data.toList)) ∧ w = w' :=
  (Sh.strings_HasPrefix s { data := #[83, 83, 72, 45] } w).mono (by rintro e w' ⟨rfl, rfl⟩; exact ⟨rfl, rfl⟩)
def resL (ad : Nat → Addr) : St → Value
  | .err c => errv ad (c - 1)
  | _ => .nilIface
def moreL (m : Nat) : St → Nat
  | .wait _ m' => m'
  | _ => m
def peerL : St → List UInt8
  | .done q => q
  | _ => []
set_option maxHeartbeats 2000000 in
theorem line_ok (ad : Nat → Addr) (h : Nat) (p : List UInt8) (m : Nat) (hm : m ≤ 1000) (s : ByteArray) (hs : s.size ≤ 2000) (w : World) (hB : HB w h p m [] .nilIface) (hS : ES w ad) :
    Calls Tryz.prog 44 #[.pointer (some ⟨h, 0, none⟩), .string s] w fun e w' => e = .returned (resL ad (lineSt s.data.toList m)) ∧ HB w' h p (moreL m (lineSt s.data.toList m)) (peerL (lineSt s.data.toList m)) .nilIface ∧ Keeps (fun k => k = h) w w' := by
  have HH := Lib.hid hB
  have HS := Lib.hid hS
  have h0 := has0 s w
  have hp := hasS s w
  have hv := version_ok ad h p m .nilIface s hs w hB hS
  have c1 := hB.cell 1 _ rfl
  have f1 := hB.free 1
  have e2 : w.cell? ⟨3, 0, none⟩ = some (errv ad 2) := hS.c2
  have e11 : w.cell? ⟨5, 0, none⟩ = some (errv ad 11) := hS.c11
  clear hB hS
  by_cases h1 : (0 : UInt8) ∈ s.data.toList
  · have hl : lineSt s.data.toList m = .err 3 := by unfold lineSt; rw [if_pos h1]
    rw [hl]
    rw [decide_eq_true h1] at h0
    have H0 := Lib.hid h0
    clear h0 hp hv h1 hl
    go_enter Tryz.func44, Tryz.ntmps44
    go_wp2_with (go_at_call 75; refine H0.out.mono ?_; rintro e w' ⟨rfl, rfl⟩)
    go_ret
    exact ⟨rfl, HH.out, Keeps.refl _ _⟩
  · rw [decide_eq_false h1] at h0
    have H0 := Lib.hid h0
    clear h0
    by_cases h2 : ssh.isPrefixOf s.data.toList = true
    · rw [h2] at hp
      have HP := Lib.hid hp
      clear hp
      by_cases hvv : verOk s.data.toList = true
      · have hl : lineSt s.data.toList m = .done s.data.toList := by unfold lineSt; rw [if_neg h1, if_pos h2, if_pos hvv]
        rw [if_pos hvv, if_pos hvv] at hv
        have HV := Lib.hid hv
        rw [hl]
        clear hv h1 h2 hl hvv
        go_enter Tryz.func44, Tryz.ntmps44
        go_wp2_with (first | (go_at_call 75; refine H0.out.mono ?_; rintro e w' ⟨rfl, rfl⟩) | (go_at_call 63; refine HP.out.mono ?_; rintro e w' ⟨rfl, rfl⟩) | (go_at_call 76; refine HV.out.mono ?_; rintro e w2 ⟨rfl, hb, hk⟩))
        go_ret
        exact ⟨rfl, hb, hk⟩
      · have hl : lineSt s.data.toList m = .err 12 := by unfold lineSt; rw [if_neg h1, if_pos h2, if_neg hvv]
        rw [if_neg hvv, if_neg hvv] at hv
        have HV := Lib.hid hv
        rw [hl]
        clear hv h1 h2 hl hvv
        go_enter Tryz.func44, Tryz.ntmps44
        go_wp2_with (first | (go_at_call 75; refine H0.out.mono ?_; rintro e w' ⟨rfl, rfl⟩) | (go_at_call 63; refine HP.out.mono ?_; rintro e w' ⟨rfl, rfl⟩) | (go_at_call 76; refine HV.out.mono ?_; rintro e w2 ⟨rfl, hb, hk⟩))
        go_ret
        exact ⟨rfl, hb, hk⟩
    · have h2' : ssh.isPrefixOf s.data.toList = false := Bool.eq_false_iff.2 h2
      rw [h2'] at hp
      have HP := Lib.hid hp
      clear hp hv h2'
      rcases Nat.eq_zero_or_pos m with hz | hz
      · have hl : lineSt s.data.toList m = .err 12 := by unfold lineSt; rw [if_neg h1, if_neg h2, if_pos hz]
        rw [hl]
        have d : ((m : Int) == 0) = true := by rw [beq_iff_eq]; omega
        clear h1 h2 hl hz
        go_enter Tryz.func44, Tryz.ntmps44
        go_wp2_with (first | (go_at_call 75; refine H0.out.mono ?_; rintro e w' ⟨rfl, rfl⟩) | (go_at_call 63; refine HP.out.mono ?_; rintro e w' ⟨rfl, rfl⟩))
        go_ret
        exact ⟨rfl, HH.out, Keeps.refl _ _⟩
      · have hl : lineSt s.data.toList m = .wait [] (m - 1) := by unfold lineSt; rw [if_neg h1, if_neg h2, if_neg (by omega)]
        rw [hl]
        have d : ((m : Int) == 0) = false := by rw [beq_eq_false_iff_ne]; omega
        have HS2 : Hid (HB (w.setCell ⟨h, 1, none⟩ (.int .i64 ((m : Int) - 1))) h p (m - 1) [] .nilIface) := Lib.hid (by
          have e := HH.out.set 1 (.int .i64 ((m : Int) - 1))
          unfold HB
          rw [show (((m - 1 : Nat) : Int)) = (m : Int) - 1 by omega]
          exact e)
        have HK3 := Lib.hid ((Keeps.refl (fun k => k = h) w).set h 1 (.int .i64 ((m : Int) - 1)) (fun _ => rfl))
        clear h1 h2 hl
        go_enter Tryz.func44, Tryz.ntmps44
        go_wp2_with (first | (go_at_call 75; refine H0.out.mono ?_; rintro e w' ⟨rfl, rfl⟩) | (go_at_call 63; refine HP.out.mono ?_; rintro e w' ⟨rfl, rfl⟩))
        go_ret
        exact ⟨rfl, HS2.out, HK3.out⟩
end Go.Proofs.YtcbkbjpdfanjpaaGreatDoor
