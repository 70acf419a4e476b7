/-
HelloOthers answers true.
-/
import Derived.Test.YtcopmaceklgfnaaDoorHelG
import Derived.BigQuiet
namespace Go.Proofs.YtcopmaceklgfnaaDoor
open Go.RowKit HelP
set_option maxRecDepth 100000
def hiN : Nat → List UInt8
  | 0 => []
  | n + 1 => [104, 105, 10] ++ hiN n
theorem hiN_snoc : ∀ n, hiN n ++ [104, 105, 10] = hiN (n + 1)
  | 0 => rfl
  | n + 1 => by
    show [104, 105, 10] ++ hiN n ++ [104, 105, 10] = [104, 105, 10] ++ hiN (n + 1)
    rw [← hiN_snoc n, List.append_assoc]
theorem hiN_len : ∀ n, (hiN n).length = 3 * n
  | 0 => rfl
  | n + 1 => by
    show ([104, 105, 10] ++ hiN n).length = _
    rw [List.length_append, hiN_len n]
    simp
    omega
theorem run_hi (r : List UInt8) : ∀ n m, run (hiN n ++ r) (.wait [] m) = if n ≤ m then run r (.wait [] (m - n)) else (.err 12, [])
  | 0, m => by rw [if_pos (Nat.zero_le _)]; rfl
  | n + 1, 0 => by
    rw [if_neg (by omega)]
    show run (hiN n ++ r) (.err 12) = _
    exact run_err _ _
  | n + 1, m + 1 => by
    show run (hiN n ++ r) (.wait [] m) = _
    rw [run_hi r n m]
    by_cases h : n ≤ m
    · rw [if_pos h, if_pos (by omega), show m + 1 - (n + 1) = m - n by omega]
    · rw [if_neg h, if_neg (by omega)]
def yL : List UInt8 := [83, 83, 72, 45, 50, 46, 48, 45, 121]
theorem run_y (m : Nat) : run [83, 83, 72, 45, 50, 46, 48, 45, 121, 10] (.wait [] m) = (.done yL, []) := rfl
def xN (k : Nat) : List UInt8 := yL ++ (32 :: List.replicate k 120)
theorem xN_snoc (k : Nat) : List.replicate k (120 : UInt8) ++ [120] = List.replicate (k + 1) 120 := by
  rw [← List.replicate_succ']
theorem xN_len (k : Nat) : (xN k).length = k + 10 := by simp [xN, yL]
theorem xN_free (k : Nat) (c : UInt8) (h : c ∉ ([83, 83, 72, 45, 50, 46, 48, 45, 121, 32, 120] : List UInt8)) : c ∉ xN k := by
  intro hm
  apply h
  unfold xN yL at hm
  simp only [List.mem_append, List.mem_cons, List.mem_replicate] at hm ⊢
  rcases hm with hm | hm | hm
  · rcases hm with hm | hm | hm | hm | hm | hm | hm | hm | hm | hm <;> simp_all
  · simp_all
  · simp_all
theorem line_x (k m : Nat) : lineSt (trimR (xN k)) m = .done (xN k) := by
  have ht : trimR (xN k) = xN k := by
    refine trimR_not fun h => xN_free k 13 (by decide) ?_
    rw [← h.2]
    exact getD_mem (by rw [xN_len]; omega)
  rw [ht]
  unfold lineSt
  rw [if_neg (xN_free k 0 (by decide)), if_pos (show ssh.isPrefixOf (xN k) = true from rfl), if_pos (show verOk (xN k) = true from rfl)]
theorem run_x (k : Nat) : run (xN k ++ [10]) (.wait [] 16) = if k + 10 < 255 then (.done (xN k), []) else (.err 4, []) := by
  by_cases h : k + 10 < 255
  · rw [if_pos h, run_line 16 [] (xN k) [] (xN_free k 10 (by decide)) (Nat.zero_le _) (by rw [List.nil_append, xN_len]; omega), List.nil_append, line_x]
    rfl
  · rw [if_neg h, run_part 16 [10] (xN k) [] (xN_free k 10 (by decide)) (Nat.zero_le _), if_pos (by rw [List.nil_append, xN_len]; omega)]
theorem val_int {k : IntKind} {a b : Int} (h : a = b) : Value.int k a = .int k b := by rw [h]
theorem HSt.keeps {ad : Nat → Addr} {w w' : World} {h k : Nat} (hk : Keeps (fun i => i = k) w w') (hne : h ≠ k) : ∀ {st : St}, HSt ad w h st → HSt ad w' h st
  | .wait _ _, hh => ⟨hk.blk hh.1 hne, hh.2⟩
  | .done _, ⟨⟨p, m, hh⟩, hq⟩ => ⟨⟨p, m, hk.blk hh hne⟩, hq⟩
  | .err _, ⟨p, m, hh⟩ => ⟨p, m, hk.blk hh hne⟩
def doneB : St → Bool
  | .done _ => true
  | _ => false
/-- Done, of whatever it is in -/
theorem doneS (ad : Nat → Addr) (h : Nat) (st : St) (w : World) (hH : HSt ad w h st) : Calls Tryd.prog 9 #[.pointer (some ⟨h, 0, none⟩)] w fun e w' => e = .returned (.bool (doneB st)) ∧ w = w' := by
  cases st with
  | wait p m => exact done_ok h p [] m .nilIface w hH.1
  | err c => obtain ⟨p, m, hb⟩ := hH; exact done_ok h p [] m _ w hb
  | done q =>
    obtain ⟨⟨p, m, hb⟩, hq⟩ := hH
    have := done_ok h p q m _ w hb
    have hqe : (!q.isEmpty) = true := by cases q with | nil => exact absurd rfl hq | cons a b => rfl
    rw [hqe] at this
    exact this
theorem peerS (ad : Nat → Addr) (h : Nat) (st : St) (w : World) (hH : HSt ad w h st) : Calls Tryd.prog 14 #[.pointer (some ⟨h, 0, none⟩)] w fun e w' => e = .returned (.string (bs (peerL st))) ∧ w = w' := by
  cases st with
  | wait p m => exact peer_ok h p [] m .nilIface w hH.1
  | err c => obtain ⟨p, m, hb⟩ := hH; exact peer_ok h p [] m _ w hb
  | done q => obtain ⟨⟨p, m, hb⟩, hq⟩ := hH; exact peer_ok h p q m _ w hb
set_option maxHeartbeats 4000000 in
theorem others_ok (ad : Nat → Addr) (x y : Int) (w : World) (hS : ES w ad) : Calls Tryd.prog 3 #[.int .i64 x, .int .i64 y] w fun e w' => e = .returned (.bool true) ∧ Below w.heap.size w w' := by
  obtain ⟨F, hF2, hcF⟩ : ∃ F : Nat, F ≤ 20 ∧ ((20 < x ∧ (F : Int) = 20) ∨ (x ≤ 20 ∧ 0 < x ∧ (F : Int) = x) ∨ (x ≤ 20 ∧ x ≤ 0 ∧ (F : Int) = 0)) := ⟨(max 0 (min x 20)).toNat, by omega, by omega⟩
  obtain ⟨G, hG2, hcG⟩ : ∃ G : Nat, G ≤ 300 ∧ ((300 < y ∧ (G : Int) = 300) ∨ (y ≤ 300 ∧ 0 < y ∧ (G : Int) = y) ∨ (y ≤ 300 ∧ y ≤ 0 ∧ (G : Int) = 0)) := ⟨(max 0 (min y 300)).toNat, by omega, by omega⟩
  have HS := Lib.hid hS
  clear hS
  go_enter Tryd.func3, Tryd.ntmps3
  go_upto_region 3 with (go_at_call 6; refine (awake_ok ad w HS.out).mono ?_; rintro e w1 ⟨rfl, hb1⟩)
  go_cut [0, 1] (fun v0 v1 wx => v0 = .int .i64 F ∧ v1 = .int .i64 G ∧ w1 = wx)
  case first =>
    rcases hcF with ⟨q1, q2⟩ | ⟨q1, q0, q2⟩ | ⟨q1, q0, q2⟩
    all_goals
      rcases hcG with ⟨r1, r2⟩ | ⟨r1, r0, r2⟩ | ⟨r1, r0, r2⟩
    all_goals
      have Y := Lib.hid (And.intro q2 r2)
      clear q2 r2
      go_wp2_with fail
      go_meet
      exact ⟨val_int (by have := Y.out.1; omega), val_int (by have := Y.out.2; omega), rfl⟩
  case rest =>
  obtain ⟨rfl, rfl, rfl⟩ := hcut
  clear hcF hcG
  go_upto_region 6 with fail
  go_loop [5, 22] (fun v i => ∃ n : Nat, v = .string (bs (hiN n)) ∧ i = .int .i64 n ∧ n ≤ F) (fun _ i => 30 - (intOf i).toNat)
  case atStart => exact ⟨0, rfl, rfl, Nat.zero_le _⟩
  case round =>
  obtain ⟨n, rfl, rfl, hn⟩ := hrel
  rcases Nat.lt_or_ge n F with hlt | hge
  · have hz := bs_size (hiN n)
    have hz2 := hiN_len n
    have HE : Hid (bs (hiN n) ++ { data := #[104, 105, 10] } = bs (hiN (n + 1))) := Lib.hid (by rw [← hiN_snoc, ← bs_app]; rfl)
    go_wp2_with fail
    go_round
    case rel => exact ⟨n + 1, congrArg Value.string HE.out, by go_num, by omega⟩
    case measure => simp [intOf]; omega
  · have hnF : n = F := by omega
    subst hnF
    have hz := bs_size (hiN n)
    have hz2 := hiN_len n
    have HE : Hid (bs (hiN n) ++ { data := #[83, 83, 72, 45, 50, 46, 48, 45, 121, 10] } = bs (hiN n ++ [83, 83, 72, 45, 50, 46, 48, 45, 121, 10])) := Lib.hid (by rw [← bs_app]; rfl)
    have HN := Lib.hid (hnew_ok true w1)
    go_upto_region 10 with (go_at_call 7; refine HN.out.mono ?_; rintro e w2 ⟨rfl, hb, hbl⟩)
    have hbl2 : Below w.heap.size w w2 := hb1.trans (hbl.mono hb1.size)
    have hf := feedN ad w w2 w1.heap.size (.wait [] 16) (hiN n ++ [83, 83, 72, 45, 50, 46, 48, 45, 121, 10]) (by simp only [List.length_append, hz2]; simp; omega) HS.out hbl2 hb1.size ⟨hb, by omega, Nat.zero_le _⟩
    rw [← HE.out] at hf
    have hr : run (hiN n ++ [83, 83, 72, 45, 50, 46, 48, 45, 121, 10]) (.wait [] 16) = if n ≤ 16 then (.done yL, []) else (.err 12, []) := by rw [run_hi, run_y]
    generalize run (hiN n ++ [83, 83, 72, 45, 50, 46, 48, 45, 121, 10]) (.wait [] 16) = R1 at *
    have HF := Lib.hid hf
    have HR1 := Lib.hid hr
    have hw1h : w.heap.size ≤ w1.heap.size := hb1.size
    clear hf hr hb hbl hbl2 hb1 HE HN
    generalize w1.heap.size = h at *
    go_upto_region 13 with (go_at_call 8; refine HF.out.mono ?_; rintro e w3 ⟨rfl, hH3, hb3, hkk⟩)
    clear hkk
    clear HF hz hz2
    go_loop [9, 36] (fun v i => ∃ n : Nat, v = .string (bs (List.replicate n 120)) ∧ i = .int .i64 n ∧ n ≤ G) (fun _ i => 310 - (intOf i).toNat)
    case atStart => exact ⟨0, rfl, rfl, Nat.zero_le _⟩
    case round =>
    obtain ⟨g, rfl, rfl, hg⟩ := hrel
    have hz : (bs (List.replicate g 120)).size = g := by rw [bs_size, List.length_replicate]
    rcases Nat.lt_or_ge g G with hlt | hge
    · have HE : Hid (bs (List.replicate g 120) ++ { data := #[120] } = bs (List.replicate (g + 1) 120)) := Lib.hid (by rw [← xN_snoc, ← bs_app]; rfl)
      go_wp2_with fail
      go_round
      case rel => exact ⟨g + 1, congrArg Value.string HE.out, by go_num, by omega⟩
      case measure => simp [intOf]; omega
    · have hgG : g = G := by omega
      subst hgG
      have HE : Hid (({ data := #[83, 83, 72, 45, 50, 46, 48, 45, 121, 32] } : ByteArray) ++ bs (List.replicate g 120) ++ { data := #[10] } = bs (xN g ++ [10])) := Lib.hid (by
        rw [← bs_app]
        unfold xN
        rw [show yL ++ (32 :: List.replicate g 120) = [83, 83, 72, 45, 50, 46, 48, 45, 121, 32] ++ List.replicate g 120 from rfl, ← bs_app]
        rfl)
      have HN := Lib.hid (hnew_ok true w3)
      go_upto_region 17 with (go_at_call 7; refine HN.out.mono ?_; rintro e w4 ⟨rfl, hb, hbl⟩)
      have hH4 := hH3.below hbl
      have hbl2 : Below w.heap.size w w4 := hb3.trans (hbl.mono hb3.size)
      have hlt3 : h < w3.heap.size := by
        have := hH3
        cases hst : R1.1 with
        | wait p m => rw [hst] at this; exact Blk.lt this.1
        | err c => rw [hst] at this; obtain ⟨p, m, hx⟩ := this; exact Blk.lt hx
        | done q => rw [hst] at this; obtain ⟨⟨p, m, hx⟩, _⟩ := this; exact Blk.lt hx
      have hf := feedN ad w w4 w3.heap.size (.wait [] 16) (xN g ++ [10]) (by rw [List.length_append, xN_len]; simp; omega) HS.out hbl2 hb3.size ⟨hb, by omega, Nat.zero_le _⟩
      rw [← HE.out] at hf
      have hr := run_x g
      generalize run (xN g ++ [10]) (.wait [] 16) = R2 at *
      have HF := Lib.hid hf
      have HR2 := Lib.hid hr
      have HH4 := Lib.hid hH4
      have hw3h : w.heap.size ≤ w3.heap.size := hb3.size
      clear hf hr hb hbl hbl2 hb3 HE HN hH3 hH4
      generalize w3.heap.size = k at *
      have hhk : h ≠ k := by omega
      go_upto_region 18 with (go_at_call 8; refine HF.out.mono ?_; rintro e w5 ⟨rfl, hH5, hb5, hk5⟩)
      have hH6 := HSt.keeps hk5 hhk HH4.out
      have hd1 := fun m => doneS ad h R1.1 (w5.drewN m) (hH6.below (below_drewN (Below.refl _ _) m))
      have hd2 := fun m => doneS ad k R2.1 (w5.drewN m) (hH5.below (below_drewN (Below.refl _ _) m))
      have HB5 := Lib.hid hb5
      have hr1 := HR1.out
      have hr2 := HR2.out
      clear hk5 hH6 hH5 hb5 HR1 HR2 HH4 HF hz hge hn hw1h hw3h hhk hlt3
      by_cases g1 : n ≤ 16
      · rw [if_pos g1] at hr1
        subst hr1
        have d1 : (decide ((n : Int) ≤ 16)) = true := decide_eq_true (by omega)
        by_cases g2 : g + 10 < 255
        · rw [if_pos g2] at hr2
          subst hr2
          have d2 : (decide ((g : Int) + 10 < 255)) = true := decide_eq_true (by omega)
          have HD1 : Hid (∀ n, Calls Tryd.prog 9 #[.pointer (some ⟨h, 0, none⟩)] (w5.drewN n) fun e w' => e = .returned (.bool true) ∧ ∃ m, w' = w5.drewN m) := Lib.hid (fun n => (hd1 n).mono (by rintro e w' ⟨rfl, rfl⟩; exact ⟨rfl, n, rfl⟩))
          have HD2 : Hid (∀ n, Calls Tryd.prog 9 #[.pointer (some ⟨k, 0, none⟩)] (w5.drewN n) fun e w' => e = .returned (.bool true) ∧ ∃ m, w' = w5.drewN m) := Lib.hid (fun n => (hd2 n).mono (by rintro e w' ⟨rfl, rfl⟩; exact ⟨rfl, n, rfl⟩))
          clear hd1 hd2
          simp only [resL]
          go_quiet (first | (go_at_call 9; exact HD1.out _) | (go_at_call 9; exact HD2.out _))
          go_wp2_with fail
          go_ret
          exact ⟨rfl, below_drewN HB5.out _⟩
        · rw [if_neg g2] at hr2
          subst hr2
          have d2 : (decide ((g : Int) + 10 < 255)) = false := decide_eq_false (by omega)
          have HD1 : Hid (∀ n, Calls Tryd.prog 9 #[.pointer (some ⟨h, 0, none⟩)] (w5.drewN n) fun e w' => e = .returned (.bool true) ∧ ∃ m, w' = w5.drewN m) := Lib.hid (fun n => (hd1 n).mono (by rintro e w' ⟨rfl, rfl⟩; exact ⟨rfl, n, rfl⟩))
          have HD2 : Hid (∀ n, Calls Tryd.prog 9 #[.pointer (some ⟨k, 0, none⟩)] (w5.drewN n) fun e w' => e = .returned (.bool false) ∧ ∃ m, w' = w5.drewN m) := Lib.hid (fun n => (hd2 n).mono (by rintro e w' ⟨rfl, rfl⟩; exact ⟨rfl, n, rfl⟩))
          clear hd1 hd2
          simp only [resL]
          go_quiet (first | (go_at_call 9; exact HD1.out _) | (go_at_call 9; exact HD2.out _))
          go_wp2_with fail
          go_ret
          exact ⟨rfl, below_drewN HB5.out _⟩
      · rw [if_neg g1] at hr1
        subst hr1
        have d1 : (decide ((n : Int) ≤ 16)) = false := decide_eq_false (by omega)
        by_cases g2 : g + 10 < 255
        · rw [if_pos g2] at hr2
          subst hr2
          have d2 : (decide ((g : Int) + 10 < 255)) = true := decide_eq_true (by omega)
          have HD1 : Hid (∀ n, Calls Tryd.prog 9 #[.pointer (some ⟨h, 0, none⟩)] (w5.drewN n) fun e w' => e = .returned (.bool false) ∧ ∃ m, w' = w5.drewN m) := Lib.hid (fun n => (hd1 n).mono (by rintro e w' ⟨rfl, rfl⟩; exact ⟨rfl, n, rfl⟩))
          have HD2 : Hid (∀ n, Calls Tryd.prog 9 #[.pointer (some ⟨k, 0, none⟩)] (w5.drewN n) fun e w' => e = .returned (.bool true) ∧ ∃ m, w' = w5.drewN m) := Lib.hid (fun n => (hd2 n).mono (by rintro e w' ⟨rfl, rfl⟩; exact ⟨rfl, n, rfl⟩))
          clear hd1 hd2
          simp only [resL]
          go_quiet (first | (go_at_call 9; exact HD1.out _) | (go_at_call 9; exact HD2.out _))
          go_wp2_with fail
          go_ret
          exact ⟨rfl, below_drewN HB5.out _⟩
        · rw [if_neg g2] at hr2
          subst hr2
          have d2 : (decide ((g : Int) + 10 < 255)) = false := decide_eq_false (by omega)
          have HD1 : Hid (∀ n, Calls Tryd.prog 9 #[.pointer (some ⟨h, 0, none⟩)] (w5.drewN n) fun e w' => e = .returned (.bool false) ∧ ∃ m, w' = w5.drewN m) := Lib.hid (fun n => (hd1 n).mono (by rintro e w' ⟨rfl, rfl⟩; exact ⟨rfl, n, rfl⟩))
          have HD2 : Hid (∀ n, Calls Tryd.prog 9 #[.pointer (some ⟨k, 0, none⟩)] (w5.drewN n) fun e w' => e = .returned (.bool false) ∧ ∃ m, w' = w5.drewN m) := Lib.hid (fun n => (hd2 n).mono (by rintro e w' ⟨rfl, rfl⟩; exact ⟨rfl, n, rfl⟩))
          clear hd1 hd2
          simp only [resL]
          go_quiet (first | (go_at_call 9; exact HD1.out _) | (go_at_call 9; exact HD2.out _))
          go_wp2_with fail
          go_ret
          exact ⟨rfl, below_drewN HB5.out _⟩
end Go.Proofs.YtcopmaceklgfnaaDoor
