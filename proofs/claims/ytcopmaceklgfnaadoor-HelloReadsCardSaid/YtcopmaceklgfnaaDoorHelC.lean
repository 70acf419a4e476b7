/-
strings.Cut at one byte; what the program's small functions do.
-/
import Derived.Test.YtcopmaceklgfnaaDoorHelW
import Derived.Test.YtcopmaceklgfnaaDoorBlks
namespace Go.Proofs.YtcopmaceklgfnaaDoor
open Go.RowKit HelP
set_option maxRecDepth 100000
theorem ib_mem (c : UInt8) : ∀ l : List UInt8, Lib.indexByte l c = if c ∈ l then (((upTo c l).length : Nat) : Int) else -1
  | [] => by simp [Lib.indexByte]
  | x :: l => by
    have ih := ib_mem c l
    by_cases hx : x = c
    · subst hx
      simp [Lib.indexByte, upTo]
    · have e : upTo c (x :: l) = x :: upTo c l := by simp [upTo, hx]
      have hne : (x == c) = false := by simpa using hx
      have hm : (c ∈ x :: l) ↔ c ∈ l := by
        rw [List.mem_cons]
        exact ⟨fun h => h.elim (fun e => absurd e.symm hx) id, .inr⟩
      show (if x == c then 0 else if Lib.indexByte l c == -1 then -1 else Lib.indexByte l c + 1) = _
      rw [hne, e, ih]
      by_cases h : c ∈ l
      · rw [if_pos h, if_pos (hm.2 h)]
        have h2 : ((((upTo c l).length : Nat) : Int) == -1) = false := by rw [beq_eq_false_iff_ne]; omega
        rw [h2]
        simp
      · rw [if_neg h, if_neg (fun h' => h (hm.1 h'))]
        rfl
theorem ext_take (s : ByteArray) (k : Nat) : s.extract 0 k = bs (s.data.toList.take k) := by
  apply ByteArray.ext
  simp [bs, ByteArray.data_extract]
  apply Array.ext'
  simp [Array.toList_extract]
theorem ext_drop (s : ByteArray) (k : Nat) : s.extract k s.size = bs (s.data.toList.drop k) := by
  have hl : s.data.toList.length = s.size := Array.length_toList
  apply ByteArray.ext
  apply Array.ext'
  simp only [bs, ByteArray.data_extract, Array.toList_extract, List.extract_eq_take_drop]
  rw [List.take_of_length_le (by rw [List.length_drop]; omega)]
theorem lcut_ok (s : ByteArray) (c : UInt8) (hs : s.size ≤ 5000) (w : World) : Calls Tryd.prog 24 #[.string s, .string ⟨#[c]⟩] w fun e w' =>
    e = .returned (.tuple #[.string (bs (upTo c s.data.toList)), .string (bs (if c ∈ s.data.toList then s.data.toList.drop ((upTo c s.data.toList).length + 1) else [])), .bool (decide (c ∈ s.data.toList))]) ∧ Below w.heap.size w w' := by
  have hib := ib_mem c s.data.toList
  have hlen : s.data.toList.length = s.size := Array.length_toList
  by_cases hm : c ∈ s.data.toList
  · rw [if_pos hm] at hib
    have hk := congrArg List.length (upTo_mem hm)
    rw [List.length_append, List.length_cons, List.length_drop, hlen] at hk
    have hut := upTo_take c s.data.toList
    have het := ext_take s (upTo c s.data.toList).length
    rw [hut] at het
    have hed := ext_drop s ((upTo c s.data.toList).length + 1)
    rw [if_pos hm, decide_eq_true hm, ← het, ← hed]
    generalize (upTo c s.data.toList).length = k at *
    have hks : k + 1 ≤ s.size := by omega
    have HIB := Lib.hid hib
    clear hk hut het hed hm hlen hib
    go_enter Tryd.func24, Tryd.ntmps24
    go_upto_region 2 with (go_at_call 31; refine (Sh.stringslite_Index_one _ _ _).mono ?_; rintro e w' ⟨rfl, rfl⟩)
    rw [HIB.out]
    have HKS := Lib.hid hks
    go_upto_region 3 with fail
    go_region
    go_wp2_with fail
    refine bodyPost_ret (results_tmp3 rfl _ _ _) rfl ?_
    exact ⟨rfl, below_drewN (Below.refl _ _) 1⟩
  · rw [if_neg hm] at hib
    rw [if_neg hm, decide_eq_false hm, upTo_not hm, bs_of]
    have HIB := Lib.hid hib
    clear hm hlen hib
    go_enter Tryd.func24, Tryd.ntmps24
    go_upto_region 2 with (go_at_call 31; refine (Sh.stringslite_Index_one _ _ _).mono ?_; rintro e w' ⟨rfl, rfl⟩)
    rw [HIB.out]
    go_wp2_with fail
    refine bodyPost_ret (results_tmp3 rfl _ _ _) rfl ?_
    exact ⟨rfl, Below.refl _ _⟩
theorem cut1_ok (s : ByteArray) (c : UInt8) (hs : s.size ≤ 5000) (w : World) : Calls Tryd.prog 17 #[.string s, .string ⟨#[c]⟩] w fun e w' =>
    e = .returned (.tuple #[.string (bs (upTo c s.data.toList)), .string (bs (if c ∈ s.data.toList then s.data.toList.drop ((upTo c s.data.toList).length + 1) else [])), .bool (decide (c ∈ s.data.toList))]) ∧ Below w.heap.size w w' := by
  have hc := lcut_ok s c hs w
  obtain ⟨A, hA⟩ : ∃ A, A = bs (upTo c s.data.toList) := ⟨_, rfl⟩
  obtain ⟨B, hB⟩ : ∃ B, B = bs (if c ∈ s.data.toList then s.data.toList.drop ((upTo c s.data.toList).length + 1) else []) := ⟨_, rfl⟩
  obtain ⟨D, hD⟩ : ∃ D, D = decide (c ∈ s.data.toList) := ⟨_, rfl⟩
  rw [← hA, ← hB, ← hD] at hc ⊢
  have HC := Lib.hid hc
  clear hc hA hB hD
  go_enter Tryd.func17, Tryd.ntmps17
  go_wp2_with (go_at_call 24; refine HC.out.mono ?_; rintro e w' ⟨rfl, hb⟩)
  refine bodyPost_ret (results_tmp3 rfl _ _ _) rfl ?_
  exact ⟨rfl, hb⟩
/-- a peer who is read -/
def HB (w : World) (h : Nat) (p : List UInt8) (m : Nat) (q : List UInt8) (e : Value) : Prop := Blk w h 41 [.string (bs p), .int .i64 (m : Nat), .string (bs q), e]
theorem done_ok (h : Nat) (p q : List UInt8) (m : Nat) (e : Value) (w : World) (hB : HB w h p m q e) : Calls Tryd.prog 9 #[.pointer (some ⟨h, 0, none⟩)] w fun e w' => e = .returned (.bool (!q.isEmpty)) ∧ w = w' := by
  have c2 := hB.cell 2 _ rfl
  have he : (bs q).toList.isEmpty = q.isEmpty := by rw [ByteArray.toList_eq]; rfl
  have HE := Lib.hid he
  clear he hB
  go_enter Tryd.func9, Tryd.ntmps9
  go_wp2_with fail
  go_ret
  exact ⟨by rw [← HE.out]; rfl, rfl⟩
theorem peer_ok (h : Nat) (p q : List UInt8) (m : Nat) (e : Value) (w : World) (hB : HB w h p m q e) : Calls Tryd.prog 14 #[.pointer (some ⟨h, 0, none⟩)] w fun e w' => e = .returned (.string (bs q)) ∧ w = w' := by
  have c2 := hB.cell 2 _ rfl
  clear hB
  go_enter Tryd.func14, Tryd.ntmps14
  go_wp2_with fail
  go_ret
  exact ⟨rfl, rfl⟩
theorem hnew_ok (b : Bool) (w : World) : Calls Tryd.prog 7 #[.bool b] w fun e w' => e = .returned (.pointer (some ⟨w.heap.size, 0, none⟩)) ∧ HB w' w.heap.size [] (if b then 16 else 0) [] .nilIface ∧ Below w.heap.size w w' := by
  go_enter Tryd.func7, Tryd.ntmps7
  cases b
  · go_wp2_with fail
    go_ret
    exact ⟨rfl, Blk.new w 41 [.string (bs []), .int .i64 0, .string (bs []), .nilIface], below1 w _⟩
  · go_wp2_with fail
    go_ret
    exact ⟨rfl, Blk.new w 41 [.string (bs []), .int .i64 16, .string (bs []), .nilIface], below1 w _⟩
end Go.Proofs.YtcopmaceklgfnaaDoor
