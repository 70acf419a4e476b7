/-
hello: a word; strings.Cut at one byte.
-/
import Derived.Test.YtcopmaceklgfnaaDoorHelL
import Derived.Test.YtcopmaceklgfnaaDoorHelP
import Derived.Deep.DeepCutAuto
namespace Go.Proofs.YtcopmaceklgfnaaDoor
open Go.RowKit HelP
set_option maxRecDepth 100000
def bs (l : List UInt8) : ByteArray := ⟨l.toArray⟩
theorem bs_l (l : List UInt8) : (bs l).data.toList = l := rfl
theorem bs_of (s : ByteArray) : bs s.data.toList = s := by
  apply ByteArray.ext; simp [bs]
theorem bs_size (l : List UInt8) : (bs l).size = l.length := by simp [bs, ByteArray.size]
theorem emp_l (s : ByteArray) : s.toList.isEmpty = decide (s.size = 0) := by
  rw [ByteArray.toList_eq, Bool.eq_iff_iff, List.isEmpty_iff, decide_eq_true_iff, ← List.length_eq_zero_iff, Array.length_toList]
  rfl
theorem at_l (s : ByteArray) (i : Nat) (h : i < s.size) : s[i]'h = s.data.toList.getD i 0 := by
  have hl : i < s.data.toList.length := by rw [Array.length_toList]; exact h
  rw [List.getD_eq_getElem?_getD, List.getElem?_eq_getElem hl]
  rfl
theorem take_snoc (s : ByteArray) (i : Nat) (h : i < s.size) : s.data.toList.take (i + 1) = s.data.toList.take i ++ [s[i]'h] := by
  have hl : i < s.data.toList.length := by rw [Array.length_toList]; exact h
  rw [at_l s i h, List.take_add_one, List.getD_eq_getElem?_getD, List.getElem?_eq_getElem hl]
  rfl
theorem word_bad {s : ByteArray} {i : Nat} (h : i < s.size) (hc : okC (s[i]'h) = false) : wordL s.data.toList = false := by
  have hm : s[i]'h ∈ s.data.toList := by
    have hl : i < s.data.toList.length := by rw [Array.length_toList]; exact h
    rw [at_l s i h, List.getD_eq_getElem?_getD, List.getElem?_eq_getElem hl]
    exact List.getElem_mem hl
  unfold wordL
  have : s.data.toList.all okC = false := by
    rw [List.all_eq_false]
    exact ⟨_, hm, by simp [hc]⟩
  rw [this]
  rfl
set_option maxHeartbeats 2000000 in
theorem word_ok (s : ByteArray) (hs : s.size ≤ 2000) (w : World) : Calls Tryd.prog 23 #[.string s] w fun e w' => e = .returned (.bool (wordL s.data.toList)) ∧ w = w' := by
  go_enter Tryd.func23, Tryd.ntmps23
  go_wp2_with fail
  go_loop [6] (fun v => ∃ i : Nat, v = .int .i64 i ∧ i ≤ s.size ∧ Hid ((s.data.toList.take i).all okC = true)) (fun v => 3000 - (intOf v).toNat)
  case atStart => exact ⟨0, rfl, by omega, Lib.hid rfl⟩
  case round =>
    obtain ⟨i, rfl, hi, ha⟩ := hrel
    rcases Nat.lt_or_ge i s.size with h | h
    · have hbad := fun hc => word_bad (s := s) h hc
      have HBAD := Lib.hid hbad
      have hsn := take_snoc s i h
      have HSN := Lib.hid hsn
      clear hbad hsn
      by_cases c1 : (s[i]'h).toNat < 33
      · have hb : okC (s[i]'h) = false := by unfold okC; rw [decide_eq_false (by omega)]; rfl
        have hb2 := HBAD.out hb
        have HB2 := Lib.hid hb2
        clear hb hb2
        go_wp2_with fail
        go_ret
        exact ⟨by rw [HB2.out]; rfl, rfl⟩
      · by_cases c2 : 126 < (s[i]'h).toNat
        · have hb : okC (s[i]'h) = false := by unfold okC; rw [decide_eq_false (p := (s[i]'h).toNat ≤ 126) (by omega), Bool.and_false]; rfl
          have hb2 := HBAD.out hb
          have HB2 := Lib.hid hb2
          have d1 : ((((s[i]'h).toNat : Nat) : Int) < 33) = False := eq_false (by omega)
          clear hb hb2
          go_wp2_with fail
          go_ret
          exact ⟨by rw [HB2.out]; rfl, rfl⟩
        · have d1 : ((((s[i]'h).toNat : Nat) : Int) < 33) = False := eq_false (by omega)
          have d2 : (126 < (((s[i]'h).toNat : Nat) : Int)) = False := eq_false (by omega)
          by_cases c3 : (s[i]'h).toNat = 45
          · have hb : okC (s[i]'h) = false := by unfold okC; rw [decide_eq_false (p := (s[i]'h).toNat ≠ 45) (by omega), Bool.and_false]
            have hb2 := HBAD.out hb
            have HB2 := Lib.hid hb2
            have d3 : ((((s[i]'h).toNat : Nat) : Int) == 45) = true := by rw [beq_iff_eq]; omega
            clear hb hb2 c3
            go_wp2_with fail
            go_ret
            exact ⟨by rw [HB2.out]; rfl, rfl⟩
          · have hok : okC (s[i]'h) = true := by unfold okC; rw [decide_eq_true (by omega), decide_eq_true (by omega), decide_eq_true (by omega)]; rfl
            have hall : (s.data.toList.take (i + 1)).all okC = true := by
              rw [HSN.out, List.all_append, ha.out]
              simp [hok]
            have HALL := Lib.hid hall
            have d3 : ((((s[i]'h).toNat : Nat) : Int) == 45) = false := by rw [beq_eq_false_iff_ne]; omega
            clear hok hall c3
            go_wp2_with fail
            go_round
            case rel => exact ⟨i + 1, by go_num, by omega, HALL⟩
            case measure => simp [intOf]; omega
    · have hlen : s.data.toList.length = s.size := Array.length_toList
      have hie : i = s.size := by omega
      have hall : s.data.toList.all okC = true := by
        have e := ha.out
        rw [hie, List.take_of_length_le (by omega)] at e
        exact e
      have HE : Hid (wordL s.data.toList = (decide (1 ≤ s.size) && decide (s.size ≤ 64))) := Lib.hid (by unfold wordL; rw [hall, hlen]; rfl)
      clear hlen hie hall
      rcases Nat.lt_or_ge s.size 1 with h1 | h1
      · have HF : Hid (wordL s.data.toList = false) := Lib.hid (by rw [HE.out, decide_eq_false (by omega)]; rfl)
        have d : s.toList.isEmpty = true := by rw [emp_l]; exact decide_eq_true (by omega)
        go_wp2_with fail
        go_ret
        exact ⟨by rw [HF.out]; rfl, rfl⟩
      · have HF : Hid (wordL s.data.toList = decide (s.size ≤ 64)) := Lib.hid (by rw [HE.out, decide_eq_true (by omega)]; rfl)
        have d : s.toList.isEmpty = false := by rw [emp_l]; exact decide_eq_false (by omega)
        go_wp2_with fail
        go_ret
        refine ⟨?_, rfl⟩
        rw [HF.out]
        refine congrArg Ending.returned (congrArg Value.bool ?_)
        rw [decide_eq_decide]
        omega
set_option maxHeartbeats 2000000 in
theorem rword_ok (s : ByteArray) (hs : s.size ≤ 2000) (w : World) : Calls Tryd.prog 21 #[.string s] w fun e w' => e = .returned (.bool (wordL s.data.toList)) ∧ w = w' := by
  go_enter Tryd.func21, Tryd.ntmps21
  go_wp2_with fail
  go_loop [3] (fun v => ∃ i : Nat, v = .int .i64 i ∧ i ≤ s.size ∧ Hid ((s.data.toList.take i).all okC = true)) (fun v => 3000 - (intOf v).toNat)
  case atStart => exact ⟨0, rfl, by omega, Lib.hid rfl⟩
  case round =>
    obtain ⟨i, rfl, hi, ha⟩ := hrel
    rcases Nat.lt_or_ge i s.size with h | h
    · have hbad := fun hc => word_bad (s := s) h hc
      have HBAD := Lib.hid hbad
      have hsn := take_snoc s i h
      have HSN := Lib.hid hsn
      clear hbad hsn
      by_cases c1 : (s[i]'h).toNat < 33
      · have hb : okC (s[i]'h) = false := by unfold okC; rw [decide_eq_false (by omega)]; rfl
        have hb2 := HBAD.out hb
        have HB2 := Lib.hid hb2
        clear hb hb2
        go_wp2_with fail
        go_ret
        exact ⟨by rw [HB2.out]; rfl, rfl⟩
      · by_cases c2 : 126 < (s[i]'h).toNat
        · have hb : okC (s[i]'h) = false := by unfold okC; rw [decide_eq_false (p := (s[i]'h).toNat ≤ 126) (by omega), Bool.and_false]; rfl
          have hb2 := HBAD.out hb
          have HB2 := Lib.hid hb2
          have d1 : ((((s[i]'h).toNat : Nat) : Int) < 33) = False := eq_false (by omega)
          clear hb hb2
          go_wp2_with fail
          go_ret
          exact ⟨by rw [HB2.out]; rfl, rfl⟩
        · have d1 : ((((s[i]'h).toNat : Nat) : Int) < 33) = False := eq_false (by omega)
          have d2 : (126 < (((s[i]'h).toNat : Nat) : Int)) = False := eq_false (by omega)
          by_cases c3 : (s[i]'h).toNat = 45
          · have hb : okC (s[i]'h) = false := by unfold okC; rw [decide_eq_false (p := (s[i]'h).toNat ≠ 45) (by omega), Bool.and_false]
            have hb2 := HBAD.out hb
            have HB2 := Lib.hid hb2
            have d3 : ((((s[i]'h).toNat : Nat) : Int) == 45) = true := by rw [beq_iff_eq]; omega
            clear hb hb2 c3
            go_wp2_with fail
            go_ret
            exact ⟨by rw [HB2.out]; rfl, rfl⟩
          · have hok : okC (s[i]'h) = true := by unfold okC; rw [decide_eq_true (by omega), decide_eq_true (by omega), decide_eq_true (by omega)]; rfl
            have hall : (s.data.toList.take (i + 1)).all okC = true := by
              rw [HSN.out, List.all_append, ha.out]
              simp [hok]
            have HALL := Lib.hid hall
            have d3 : ((((s[i]'h).toNat : Nat) : Int) == 45) = false := by rw [beq_eq_false_iff_ne]; omega
            clear hok hall c3
            go_wp2_with fail
            go_round
            case rel => exact ⟨i + 1, by go_num, by omega, HALL⟩
            case measure => simp [intOf]; omega
    · have hlen : s.data.toList.length = s.size := Array.length_toList
      have hie : i = s.size := by omega
      have hall : s.data.toList.all okC = true := by
        have e := ha.out
        rw [hie, List.take_of_length_le (by omega)] at e
        exact e
      have HE : Hid (wordL s.data.toList = (decide (1 ≤ s.size) && decide (s.size ≤ 64))) := Lib.hid (by unfold wordL; rw [hall, hlen]; rfl)
      clear hlen hie hall
      rcases Nat.lt_or_ge s.size 1 with h1 | h1
      · have HF : Hid (wordL s.data.toList = false) := Lib.hid (by rw [HE.out, decide_eq_false (by omega)]; rfl)
        go_wp2_with fail
        go_ret
        exact ⟨by rw [HF.out]; rfl, rfl⟩
      · have d1 : (decide ((1 : Int) ≤ s.size)) = true := decide_eq_true (by omega)
        have HF : Hid (wordL s.data.toList = decide (s.size ≤ 64)) := Lib.hid (by rw [HE.out, decide_eq_true (by omega)]; rfl)
        go_wp2_with fail
        go_ret
        refine ⟨?_, rfl⟩
        rw [HF.out]
        refine congrArg Ending.returned (congrArg Value.bool ?_)
        rw [decide_eq_decide]
        omega
end Go.Proofs.YtcopmaceklgfnaaDoor
