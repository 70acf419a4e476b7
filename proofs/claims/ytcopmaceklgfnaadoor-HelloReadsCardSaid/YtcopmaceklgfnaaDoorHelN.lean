/-
HelloLines answers true.
-/
import Derived.Test.YtcopmaceklgfnaaDoorHelO
namespace Go.Proofs.YtcopmaceklgfnaaDoor
open Go.RowKit HelP
set_option maxRecDepth 100000
theorem ok_of_word {t : List UInt8} (h : wordL t = true) {c : UInt8} (hc : c ∈ t) : okC c = true := by
  unfold wordL at h
  simp only [Bool.and_eq_true] at h
  exact List.all_eq_true.1 h.1.1 c hc
theorem word_not {t : List UInt8} (h : wordL t = true) (c : UInt8) (hc : okC c = false) : c ∉ t := fun hm => by
  rw [ok_of_word h hm] at hc
  cases hc
theorem word_len {t : List UInt8} (h : wordL t = true) : t.length ≤ 64 := by
  unfold wordL at h
  simp only [Bool.and_eq_true, decide_eq_true_eq] at h
  exact h.2
theorem now_not {t : List UInt8} (h : wordL t = true) (c : UInt8) (hc : okC c = false) (hn : c ∉ now) : c ∉ now ++ t := by
  rw [List.mem_append, not_or]
  exact ⟨hn, word_not h c hc⟩
theorem run_own (t : List UInt8) (h : wordL t = true) (m : Nat) : run (now ++ t ++ [13, 10]) (.wait [] m) = (.done (now ++ t), []) := by
  have hl := word_len h
  have e : now ++ t ++ [13, 10] = (now ++ t ++ [13]) ++ 10 :: [] := by simp
  have hln : (now ++ t ++ [13]).length = t.length + 9 := by simp [now]
  rw [e, run_line m [] (now ++ t ++ [13]) [] (by
    rw [List.mem_append, not_or]
    exact ⟨now_not h 10 (by decide) (by decide), by decide⟩) (Nat.zero_le _) (by rw [List.nil_append, hln]; omega), List.nil_append]
  have ht : trimR (now ++ t ++ [13]) = now ++ t := by
    unfold trimR
    rw [if_pos (by rw [List.isSuffixOf_iff_suffix]; exact List.suffix_append _ _), hln]
    have : (now ++ t).length = t.length + 8 := by simp [now]
    rw [show t.length + 9 - 1 = (now ++ t).length by omega, List.take_left]
  have hv : verOk (now ++ t) = true := by
    unfold verOk
    rw [if_pos (show now.isPrefixOf (now ++ t) = true from rfl)]
    rw [show (now ++ t).drop 8 = t from rfl, upTo_not (word_not h 32 (by decide)), h]
  rw [ht]
  unfold lineSt
  rw [if_neg (now_not h 0 (by decide) (by decide)), if_pos (show ssh.isPrefixOf (now ++ t) = true from rfl), if_pos hv]
  rfl
set_option maxHeartbeats 4000000 in
theorem lines_ok (ad : Nat → Addr) (s0 : ByteArray) (w : World) (hS : SentF w 73 errGs ad) : Calls Tryd.prog 5 #[.string s0] w fun e w' => e = .returned (.bool true) ∧ Below w.heap.size w w' := by
  have HS := Lib.hid (ES.of hS)
  have HSF := Lib.hid hS
  clear hS
  obtain ⟨s, hs⟩ : ∃ s, s = s0.extract 0 80 := ⟨_, rfl⟩
  have hsz : s.size ≤ 80 := by rw [hs, ByteArray.size_extract]; omega
  have hcut := fun w' => cut_ok s0 80 w'
  rw [← hs] at hcut
  have HC := Lib.hid hcut
  clear hcut hs
  have hlen : s.data.toList.length = s.size := Array.length_toList
  have HL : Hid (∀ w', Below w.heap.size w w' → Calls Tryd.prog 15 #[.string s] w' fun e w'' =>
    e = .returned (.tuple #[.string (bs (if wordL s.data.toList then now ++ s.data.toList ++ [13, 10] else [])), if wordL s.data.toList then .nilIface else errv ad 0]) ∧ Below w'.heap.size w' w'') := Lib.hid fun w' hb => hline_ok ad s (by omega) w' (HS.out.same hb)
  have HW : Hid (∀ w', Calls Tryd.prog 16 #[.string s] w' fun e w'' => e = .returned (.bool (wordL s.data.toList)) ∧ w' = w'') := Lib.hid fun w' => rWord_ok s (by omega) w'
  cases hV : wordL s.data.toList with
  | false =>
    rw [hV] at HL HW
    have HL : Hid (∀ w', Below w.heap.size w w' → Calls Tryd.prog 15 #[.string s] w' fun e w'' =>
      e = .returned (.tuple #[.string { data := #[] }, errv ad 0]) ∧ Below w'.heap.size w' w'') := HL
    clear hV hlen
    go_enter Tryd.func5, Tryd.ntmps5
    go_upto_region 3 with (go_at_call 6; refine (awake_ok ad w HS.out).mono ?_; rintro e w1 ⟨rfl, hb1⟩)
    go_upto_region 6 with (first | (go_at_call 10; refine (HC.out _).mono ?_; rintro e w' ⟨rfl, rfl⟩) | (go_at_call 15; refine (HL.out _ hb1).mono ?_; rintro e w2 ⟨rfl, hb2⟩) | (go_at_call 16; refine (HW.out _).mono ?_; rintro e w' ⟨rfl, rfl⟩))
    have hb3 := hb1.trans (hb2.mono hb1.size)
    have hc := code_ok ad w2 (HSF.out.same hb3) 0 (by decide)
    have HCO := Lib.hid hc
    have HB3 := Lib.hid hb3
    clear hc hb1 hb2 hb3
    go_wp2_with (go_at_call 13; refine HCO.out.mono ?_; rintro e w' ⟨rfl, rfl⟩)
    go_ret
    exact ⟨rfl, HB3.out⟩
  | true =>
    have hr := run_own s.data.toList hV 0
    have hll := word_len hV
    rw [hV] at HL HW
    obtain ⟨N, hN⟩ : ∃ N : ByteArray, N = ({ data := #[83, 83, 72, 45, 50, 46, 48, 45] } : ByteArray) ++ s := ⟨_, rfl⟩
    have hN1 : bs (now ++ s.data.toList) = N := by rw [← bs_app, bs_of, hN]; rfl
    have hN2 : bs (now ++ s.data.toList ++ [13, 10]) = N ++ { data := #[13, 10] } := by rw [← bs_app, hN1]; rfl
    have HL2 : Hid (∀ w', Below w.heap.size w w' → Calls Tryd.prog 15 #[.string s] w' fun e w'' =>
      e = .returned (.tuple #[.string (N ++ { data := #[13, 10] }), .nilIface]) ∧ Below w'.heap.size w' w'') := by rw [← hN2]; exact HL
    have HF : Hid (∀ w' h, Below w.heap.size w w' → w.heap.size ≤ h → HSt ad w' h (.wait [] 0) → Calls Tryd.prog 8 #[.pointer (some ⟨h, 0, none⟩), .string (N ++ { data := #[13, 10] })] w' fun e w'' =>
      e = .returned (.tuple #[.string { data := #[] }, .nilIface]) ∧ HSt ad w'' h (.done (now ++ s.data.toList)) ∧ Below w.heap.size w w'') := Lib.hid fun w' h hb hh hH => by
        have hf := feedN ad w w' h (.wait [] 0) (now ++ s.data.toList ++ [13, 10]) (by simp [now]; omega) HS.out hb hh hH
        rw [hr, hN2] at hf
        exact hf.mono (by rintro e w2 ⟨rfl, h1, h2, _⟩; exact ⟨rfl, h1, h2⟩)
    have hNs : N.size = s.size + 8 := by rw [hN, ByteArray.size_append]; show 8 + _ = _; omega
    have HPE : Hid (∀ w' h, HSt ad w' h (.done (now ++ s.data.toList)) → Calls Tryd.prog 14 #[.pointer (some ⟨h, 0, none⟩)] w' fun e w'' => e = .returned (.string N) ∧ w' = w'') := Lib.hid fun w' h hH => by
      have hp := peerS ad h _ w' hH
      rw [show peerL (.done (now ++ s.data.toList)) = now ++ s.data.toList from rfl, hN1] at hp
      exact hp
    have HN0 := Lib.hid hN
    clear hr hV hll hlen hN1 hN2 HL hN
    go_enter Tryd.func5, Tryd.ntmps5
    go_upto_region 3 with (go_at_call 6; refine (awake_ok ad w HS.out).mono ?_; rintro e w1 ⟨rfl, hb1⟩)
    go_upto_region 7 with (first | (go_at_call 10; refine (HC.out _).mono ?_; rintro e w' ⟨rfl, rfl⟩) | (go_at_call 15; refine (HL2.out _ hb1).mono ?_; rintro e w2 ⟨rfl, hb2⟩) | (go_at_call 16; refine (HW.out _).mono ?_; rintro e w' ⟨rfl, rfl⟩))
    have hb3 := hb1.trans (hb2.mono hb1.size)
    have HN := Lib.hid (hnew_ok false w2)
    go_upto_region 8 with (go_at_call 7; refine HN.out.mono ?_; rintro e w4 ⟨rfl, hb, hbl⟩)
    have hb4 := hb3.trans (hbl.mono hb3.size)
    have hf := HF.out w4 w2.heap.size hb4 hb3.size ⟨hb, by omega, Nat.zero_le _⟩
    have HFF := Lib.hid hf
    clear hf hb hb1 hb2 hb3 hb4 hbl HN
    go_upto_region 9 with (go_at_call 8; refine HFF.out.mono ?_; rintro e w5 ⟨rfl, hH5, hb5⟩)
    have HPP := Lib.hid (HPE.out w5 _ hH5)
    have HB5 := Lib.hid hb5
    have hN := HN0.out
    rw [hN]
    rw [hN] at hNs HPP
    clear hN HN0
    clear hH5 hb5 HFF HF HL2 HPE
    go_wp2_with (go_at_call 14; refine HPP.out.mono ?_; rintro e w' ⟨rfl, rfl⟩)
    go_ret
    exact ⟨rfl, HB5.out⟩
end Go.Proofs.YtcopmaceklgfnaaDoor
