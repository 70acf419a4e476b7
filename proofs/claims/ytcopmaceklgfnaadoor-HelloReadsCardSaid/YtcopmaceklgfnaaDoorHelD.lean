/-
HelloReads answers true.
-/
import Derived.Test.YtcopmaceklgfnaaDoorHelN
namespace Go.Proofs.YtcopmaceklgfnaaDoor
open Go.RowKit HelP
set_option maxRecDepth 100000
theorem run_rest : ∀ (l : List UInt8) (s : St), doneB (run l s).1 = false → (run l s).2 = []
  | [], _, _ => rfl
  | c :: cs, .wait p m, h => by
    have e : run (c :: cs) (.wait p m) = if c = 10 then run cs (lineSt (trimR p) m) else if 254 < p.length + 1 then run cs (.err 4) else run cs (.wait (p ++ [c]) m) := rfl
    rw [e] at h ⊢
    by_cases h1 : c = 10
    · rw [if_pos h1] at h ⊢; exact run_rest cs _ h
    · rw [if_neg h1] at h ⊢
      by_cases h2 : 254 < p.length + 1
      · rw [if_pos h2] at h ⊢; exact run_rest cs _ h
      · rw [if_neg h2] at h ⊢; exact run_rest cs _ h
  | c :: cs, .done q, h => by cases h
  | c :: cs, .err e, h => run_rest cs (.err e) h
theorem run_len : ∀ (l : List UInt8) (s : St), (run l s).2.length ≤ l.length
  | [], _ => Nat.le_refl _
  | c :: cs, .wait p m => by
    have e : run (c :: cs) (.wait p m) = if c = 10 then run cs (lineSt (trimR p) m) else if 254 < p.length + 1 then run cs (.err 4) else run cs (.wait (p ++ [c]) m) := rfl
    rw [e]
    by_cases h1 : c = 10
    · rw [if_pos h1]; exact Nat.le_succ_of_le (run_len cs _)
    · rw [if_neg h1]
      by_cases h2 : 254 < p.length + 1
      · rw [if_pos h2]; exact Nat.le_succ_of_le (run_len cs _)
      · rw [if_neg h2]; exact Nat.le_succ_of_le (run_len cs _)
  | c :: cs, .done q => Nat.le_refl _
  | c :: cs, .err e => Nat.le_succ_of_le (run_len cs (.err e))
/-- what is left, so far as one is done -/
def restL : St × List UInt8 → List UInt8
  | (.done _, r) => r
  | _ => []
def codeL : St → Nat
  | .err c => c
  | _ => 0
theorem ans_eq (x : St × List UInt8) : ansL x.1 x.2 = .agg #[.string (bs (peerL x.1)), .string (bs (restL x)), .int .i64 (codeL x.1 : Nat)] := by
  obtain ⟨s, r⟩ := x
  cases s <;> rfl
/-- the way of the reading: in st, with L left over, T to come -/
structure Inv (st : St) (L T : List UInt8) (R : St × List UInt8) : Prop where
  run : cont T (st, L) = R
  left : doneB st = false → L = []
  ok : ∀ c, st ≠ .err c
  fits : fit st
theorem inv_step {st : St} {L T : List UInt8} {R : St × List UInt8} (h : Inv st L T R) (n : Nat) :
    (∃ c, (run (T.take n) st).1 = .err c ∧ (run (T.take n) st).2 = [] ∧ R = (.err c, []) ∧ (c = 3 ∨ c = 4 ∨ c = 12)) ∨
    (Inv (run (T.take n) st).1 (L ++ (run (T.take n) st).2) (T.drop n) R ∧ (∀ ad, resL ad (run (T.take n) st).1 = .nilIface) ∧
      ((doneB st = true ∧ doneB (run (T.take n) st).1 = true ∧ (run (T.take n) st).2 = T.take n) ∨ (doneB st = false ∧ doneB (run (T.take n) st).1 = true) ∨ (doneB st = false ∧ doneB (run (T.take n) st).1 = false ∧ (run (T.take n) st).2 = []))) := by
  have hf := fit_run (T.take n) st h.fits
  cases st with
  | err c => exact absurd rfl (h.ok c)
  | done q =>
    right
    have hr := h.run
    rw [run_done]
    refine ⟨⟨?_, fun h => (by cases h), fun c h => (by cases h), h.fits⟩, fun _ => rfl, .inl ⟨rfl, rfl, rfl⟩⟩
    rw [← hr]
    show ((.done q, (L ++ T.take n) ++ T.drop n) : St × List UInt8) = (.done q, L ++ T)
    rw [List.append_assoc, List.take_append_drop]
  | wait p m =>
    have hL := h.left rfl
    subst hL
    have hr : run T (.wait p m) = R := h.run
    rw [← List.take_append_drop n T, run_app] at hr
    have hrest := run_rest (T.take n) (.wait p m)
    cases hx : run (T.take n) (.wait p m) with
    | mk s1 G =>
      rw [hx] at hr hrest hf
      cases s1 with
      | err c =>
        left
        have hr2 : run (T.drop n) (.err c) = R := hr
        rw [run_err] at hr2
        exact ⟨c, rfl, hrest rfl, hr2.symm, hf⟩
      | done q =>
        right
        exact ⟨⟨hr, fun h => (by cases h), fun c h => (by cases h), hf⟩, fun _ => rfl, .inr (.inl ⟨rfl, rfl⟩)⟩
      | wait p' m' =>
        right
        have hG := hrest rfl
        have hG' : G = [] := hG
        subst hG'
        exact ⟨⟨hr, fun _ => rfl, fun c h => (by cases h), hf⟩, fun _ => rfl, .inr (.inr ⟨rfl, rfl, rfl⟩)⟩
theorem inv_end {st : St} {L : List UInt8} {R : St × List UInt8} (h : Inv st L [] R) : peerL R.1 = peerL st ∧ restL R = L ∧ codeL R.1 = 0 ∧ doneB st = !(peerL st).isEmpty := by
  cases st with
  | err c => exact absurd rfl (h.ok c)
  | done q =>
    have hr : ((.done q, L ++ []) : St × List UInt8) = R := h.run
    rw [List.append_nil] at hr
    rw [← hr]
    refine ⟨rfl, rfl, rfl, ?_⟩
    have hq : q ≠ [] := h.fits
    cases q with
    | nil => exact absurd rfl hq
    | cons a b => rfl
  | wait p m =>
    have hL := h.left rfl
    subst hL
    have hr : ((.wait p m, []) : St × List UInt8) = R := h.run
    rw [← hr]
    exact ⟨rfl, rfl, rfl, rfl⟩
theorem HSt.fits {ad : Nat → Addr} {w : World} {h : Nat} : ∀ {st : St}, HSt ad w h st → (∀ c, st ≠ .err c) → fit st
  | .wait _ _, hh, _ => hh.2.2
  | .done _, hh, _ => hh.2
  | .err c, _, hn => absurd rfl (hn c)
theorem and63 (z : Int) : ∃ k : Nat, k ≤ 63 ∧ bits .and .i64 z 63 = (k : Int) := by
  refine ⟨(BitVec.ofInt 64 z &&& BitVec.ofInt 64 63).toNat, ?_, ?_⟩
  · rw [BitVec.toNat_and]
    exact Nat.and_le_right
  · have hle : (BitVec.ofInt 64 z &&& BitVec.ofInt 64 63).toNat ≤ 63 := by
      rw [BitVec.toNat_and]
      exact Nat.and_le_right
    show IntKind.i64.wrap ((BitVec.ofInt 64 z &&& BitVec.ofInt 64 63).toNat : Int) = _
    rw [IntKind.wrap_i64]
    omega
set_option maxHeartbeats 4000000 in
theorem reads_ok (ad : Nat → Addr) (b : Bool) (s0 : ByteArray) (zo : Option Addr) (len cap : Nat) (zs : List Int) (w : World) (hS : SentF w 73 errGs ad)
    (hz : ∀ i, i < len → ∃ g off, zo = some ⟨g, off, none⟩ ∧ w.cell? ⟨g, off + i, none⟩ = some (.int .i64 (zs.getD i 0)) ∧ g < w.heap.size) :
    Calls Tryd.prog 4 #[.bool b, .string s0, .slice zo len cap] w fun e w' => e = .returned (.bool true) ∧ Below w.heap.size w w' := by
  have HS := Lib.hid (ES.of hS)
  have HSF := Lib.hid hS
  have HZ := Lib.hid hz
  clear hS hz
  obtain ⟨s, hs⟩ : ∃ s, s = s0.extract 0 900 := ⟨_, rfl⟩
  have hsz : s.size ≤ 900 := by rw [hs, ByteArray.size_extract]; omega
  have hcut := fun w' => cut_ok s0 900 w'
  rw [← hs] at hcut
  have HC := Lib.hid hcut
  clear hcut hs
  have hsl : s.data.toList.length = s.size := Array.length_toList
  obtain ⟨m0, hm0, hm1⟩ : ∃ m0 : Nat, m0 = (if b then 16 else 0) ∧ m0 ≤ 16 := ⟨_, rfl, by cases b <;> decide⟩
  have hmore := fun w' => more_ok b w'
  rw [← hm0] at hmore
  have HM := Lib.hid hmore
  have hnew := fun w' => hnew_ok b w'
  rw [← hm0] at hnew
  have HN := Lib.hid hnew
  have hall := fun w' => all_ok s (by omega) m0 (by omega) w'
  obtain ⟨R, hR⟩ : ∃ R, R = run s.data.toList (.wait [] m0) := ⟨_, rfl⟩
  rw [← hR] at hall
  simp only [ans_eq] at hall
  have HI : Hid (Inv (.wait [] m0) [] s.data.toList R) := Lib.hid ⟨hR.symm, fun _ => rfl, fun c h => (by cases h), Nat.zero_le _⟩
  obtain ⟨P, hP⟩ : ∃ P, P = peerL R.1 := ⟨_, rfl⟩
  obtain ⟨Q, hQ⟩ : ∃ Q, Q = restL R := ⟨_, rfl⟩
  obtain ⟨E, hE⟩ : ∃ E, E = codeL R.1 := ⟨_, rfl⟩
  rw [← hP, ← hQ, ← hE] at hall
  have HPQ := Lib.hid (And.intro hP (And.intro hQ hE))
  clear hP hQ hE
  have HA := Lib.hid hall
  clear hmore hnew hall hm0 hR
  go_enter Tryd.func4, Tryd.ntmps4
  go_upto_region 4 with (first | (go_at_call 6; refine (awake_ok ad w HS.out).mono ?_; rintro e w1 ⟨rfl, hb1⟩) | (go_at_call 10; refine (HC.out _).mono ?_; rintro e w' ⟨rfl, rfl⟩))
  have HN1 := Lib.hid (HN.out w1)
  go_upto_region 7 with (go_at_call 7; refine HN1.out.mono ?_; rintro e w2 ⟨rfl, hb, hbl⟩)
  have HM2 := Lib.hid (HM.out w2)
  have HA2 := Lib.hid (HA.out w2)
  have HBW := Lib.hid (And.intro hb1 (And.intro hb hbl))
  clear hb1 hb hbl HN1 HA HM HN HC
  go_upto_region 10 with (first | (go_at_call 12; refine HM2.out.mono ?_; rintro e w' ⟨rfl, rfl⟩) | (go_at_call 11; refine HA2.out.mono ?_; rintro e w3 ⟨rfl, hb3⟩))
  have hb4 : Hid (HSt ad (w3.alloc (Obj.cells #[.string (bs P), .string (bs Q), .int .i64 (E : Nat)] 33)) w1.heap.size (.wait [] m0) ∧ Blk (w3.alloc (Obj.cells #[.string (bs P), .string (bs Q), .int .i64 (E : Nat)] 33)) w3.heap.size 33 [.string (bs P), .string (bs Q), .int .i64 (E : Nat)] ∧ Below w.heap.size w (w3.alloc (Obj.cells #[.string (bs P), .string (bs Q), .int .i64 (E : Nat)] 33)) ∧ w.heap.size ≤ w1.heap.size ∧ w1.heap.size < w3.heap.size) := Lib.hid (by
    obtain ⟨h1, h2, h3⟩ := HBW.out
    refine ⟨HSt.below (st := .wait [] m0) ⟨h2, by omega, Nat.zero_le _⟩ (hb3.alloc hb3.size _), Blk.new w3 _ _, (h1.trans (h3.mono h1.size)).trans ((hb3.alloc hb3.size _).mono (h1.trans (h3.mono h1.size)).size), h1.size, Nat.lt_of_lt_of_le (Blk.lt h2) hb3.size⟩)
  clear hb3 HBW HM2 HA2
  generalize w3.alloc _ = w4 at *
  generalize w3.heap.size = c at *
  generalize w1.heap.size = h at *
  obtain ⟨hs1, hs2, hs3, hwh, hhc⟩ := hb4.out
  clear hb4
  have HH0 := Lib.hid hs1
  have HC0 := Lib.hid (And.intro hs2 hs3)
  clear hs1 hs2 hs3
  have ⟨T0, hT0⟩ : ∃ T0, T0 = s.data.toList := ⟨_, rfl⟩
  rw [← hT0] at HI hsl
  rw [show (Value.string s) = .string (bs T0) by rw [hT0, bs_of]]
  have hT2 : T0.length ≤ 900 := by omega
  clear hT0 hsl hsz
  go_loopw [1, 9, 10] (fun v1 v9 v10 wx => ∃ (st : St) (L T : List UInt8) (i : Nat), v1 = .string (bs T) ∧ v9 = .string (bs L) ∧ v10 = .int .i64 i ∧ L.length + T.length ≤ 900 ∧ i + T.length ≤ 900 ∧ Hid (Inv st L T R) ∧ Hid (HSt ad wx h st) ∧ Hid (Blk wx c 33 [.string (bs P), .string (bs Q), .int .i64 (E : Nat)] ∧ Below w.heap.size w wx)) (fun v1 _ _ _ => strLen v1)
  case atStart => exact ⟨.wait [] m0, [], T0, 0, rfl, rfl, rfl, by simp; omega, by omega, HI, HH0, HC0⟩
  case round =>
  obtain ⟨st, L, T, i, rfl, rfl, rfl, hLT, hiT, hI, hH, hCB⟩ := hrel
  clear HI HH0 HC0
  rcases Nat.eq_zero_or_pos T.length with hT | hT
  · have hT' : T = [] := List.length_eq_zero_iff.1 hT
    subst hT'
    obtain ⟨e1, e2, e3, e4⟩ := inv_end hI.out
    obtain ⟨f1, f2, f3⟩ := HPQ.out
    rw [e1] at f1
    rw [e2] at f2
    rw [e3] at f3
    subst f2 f3
    have hdn := fun n => doneS ad h st (wr.drewN n) (hH.out.below (below_drewN (Below.refl _ _) n))
    have hpn := fun n => peerS ad h st (wr.drewN n) (hH.out.below (below_drewN (Below.refl _ _) n))
    rw [← f1] at hpn e4
    have hem : (bs P).toList.isEmpty = P.isEmpty := by rw [ByteArray.toList_eq]; rfl
    generalize doneB st = B at *
    have HDN : Hid (∀ n, Calls Tryd.prog 9 #[.pointer (some ⟨h, 0, none⟩)] (wr.drewN n) fun e w' => e = .returned (.bool B) ∧ ∃ m, w' = wr.drewN m) := Lib.hid (fun n => (hdn n).mono (by rintro e w' ⟨rfl, rfl⟩; exact ⟨rfl, n, rfl⟩))
    have HPN : Hid (∀ n, Calls Tryd.prog 14 #[.pointer (some ⟨h, 0, none⟩)] (wr.drewN n) fun e w' => e = .returned (.string (bs P)) ∧ ∃ m, w' = wr.drewN m) := Lib.hid (fun n => (hpn n).mono (by rintro e w' ⟨rfl, rfl⟩; exact ⟨rfl, n, rfl⟩))
    have hem2 : (bs P).toList.isEmpty = !B := by rw [hem, e4, Bool.not_not]
    have k0 := hCB.out.1.cell 0 _ rfl
    have k1 := hCB.out.1.cell 1 _ rfl
    have k2 := hCB.out.1.cell 2 _ rfl
    clear hdn hpn e1 e2 e3 e4 f1 hem hI hH HPQ
    have he : (bs []).toList.isEmpty = true := by rw [emp_l, bs_size]; rfl
    go_upto_region 26 with fail
    cases B
    all_goals
      try simp only [Bool.not_true, Bool.not_false] at hem2
      go_quiet (first | (go_at_call 9; exact HDN.out _) | (go_at_call 14; exact HPN.out _))
      go_wp2_with fail
      go_ret
      exact ⟨rfl, below_drewN hCB.out.2 _⟩
  · have he : (bs T).toList.isEmpty = false := by rw [emp_l, bs_size]; exact decide_eq_false (by omega)
    have hzT := bs_size T
    go_upto_if 36 with fail
    go_cut [11] (fun v wx => ∃ n : Nat, v = .int .i64 n ∧ 1 ≤ n ∧ n ≤ 1000 ∧ wr = wx)
    case first =>
      by_cases hil : i < len
      · obtain ⟨g, off, rfl, hc, hg⟩ := HZ.out i hil
        have cz : wr.cell? ⟨g, off + i, none⟩ = some (.int .i64 (zs.getD i 0)) := by rw [World.cell?_of_block (w := w) (w' := wr) (a := ⟨g, off + i, none⟩) (hCB.out.2.block g hg)]; exact hc
        obtain ⟨k, hk, hb⟩ := and63 (zs[i]?.getD 0)
        clear hc hg
        go_wp2_with fail
        go_meet
        exact ⟨k + 1, val_int (by omega), by omega, by omega, rfl⟩
      · go_wp2_with fail
        go_meet
        exact ⟨T.length, rfl, hT, by omega, rfl⟩
    case rest =>
    obtain ⟨n0, rfl, hn0, hn1, rfl⟩ := hcut
    go_upto_region 16 with fail
    go_cut [11] (fun v wx => ∃ n : Nat, v = .int .i64 n ∧ 1 ≤ n ∧ n ≤ T.length ∧ wr = wx)
    case first =>
      by_cases hnl : n0 ≤ T.length
      · go_wp2_with fail
        go_meet
        exact ⟨n0, val_int (by omega), hn0, hnl, rfl⟩
      · go_wp2_with fail
        go_meet
        exact ⟨T.length, val_int (by omega), hT, Nat.le_refl _, rfl⟩
    case rest =>
    obtain ⟨n, rfl, hn2, hn3, rfl⟩ := hcut
    have hw0 : Below w.heap.size w wr := hCB.out.2
    have hd := doneS ad h st wr hH.out
    have htk := ext_take (bs T) n
    rw [bs_l] at htk
    have hf := feedN ad w wr h st (T.take n) (by rw [List.length_take]; omega) HS.out hw0 hwh hH.out
    rw [← htk] at hf
    have HF := Lib.hid hf
    have HD := Lib.hid hd
    have HTK := Lib.hid htk
    clear hf hd htk hw0
    go_upto_region 19 with (first | (go_at_call 9; refine HD.out.mono ?_; rintro e w' ⟨rfl, rfl⟩) | (go_at_call 8; refine HF.out.mono ?_; rintro e w5 ⟨rfl, hH5, hb5, hk5⟩))
    have hstep := inv_step hI.out n
    have hgl := run_len (T.take n) st
    have hdl : (T.drop n).length = T.length - n := List.length_drop
    rw [List.length_take] at hgl
    have hCB5 : Blk w5 c 33 [.string (bs P), .string (bs Q), .int .i64 (E : Nat)] := hk5.blk hCB.out.1 (by omega)
    clear HF HD hk5 hI hH hCB
    generalize (run (T.take n) st).1 = st1 at hstep hH5 ⊢
    generalize (run (T.take n) st).2 = G at hstep hgl ⊢
    rcases hstep with ⟨cc, rfl, rfl, hR, hcc⟩ | ⟨hI', hres, hcase⟩
    · have hf2 := feedN ad w w5 h (.err cc) [109, 111, 114, 101] (by decide) HS.out hb5 hwh hH5
      rw [run_err] at hf2
      have hf2 : Calls Tryd.prog 8 #[.pointer (some ⟨h, 0, none⟩), .string { data := #[109, 111, 114, 101] }] w5 fun e w' => e = .returned (.tuple #[.string { data := #[] }, errv ad (cc - 1)]) ∧ HSt ad w' h (.err cc) ∧ Below w.heap.size w w' ∧ Keeps (fun k => k = h) w5 w' := hf2
      have HF2 := Lib.hid hf2
      have HB5 := Lib.hid hCB5
      clear hf2 hH5 hb5 hCB5
      simp only [resL]
      go_upto_region 21 with (go_at_call 8; refine HF2.out.mono ?_; rintro e w6 ⟨rfl, hH6, hb6, hk6⟩)
      have hx : bs [] = ({ data := #[] } : ByteArray) := rfl
      rw [hx]
      obtain ⟨f1, f2, f3⟩ := HPQ.out
      rw [hR] at f1 f2 f3
      replace f1 : P = [] := f1
      replace f3 : E = cc := f3
      subst f3
      have h60 : Below w6.heap.size w6 w6 := Below.refl _ _
      have hE : E - 1 < 20 ∧ E - 1 + 1 = E := by omega
      have hcn : ∀ k, Calls Tryd.prog 13 #[errv ad (E - 1)] (w6.drewN k) fun e w' => e = .returned (.int .i64 (E : Nat)) ∧ ∃ m, w' = w6.drewN m := fun k =>
        (code_ok ad (w6.drewN k) (HSF.out.same (below_drewN hb6 k)) (E - 1) hE.1).mono (by rw [hE.2]; rintro e w' ⟨rfl, rfl⟩; exact ⟨rfl, k, rfl⟩)
      have hpn : ∀ k, Calls Tryd.prog 14 #[.pointer (some ⟨h, 0, none⟩)] (w6.drewN k) fun e w' => e = .returned (.string { data := #[] }) ∧ ∃ m, w' = w6.drewN m := fun k =>
        (peerS ad h (.err E) (w6.drewN k) (hH6.below (below_drewN (Below.refl _ _) k))).mono (by rintro e w' ⟨rfl, rfl⟩; exact ⟨rfl, k, rfl⟩)
      have HCN := Lib.hid hcn
      have HPN := Lib.hid hpn
      have HB6 := Lib.hid hb6
      have k2 := (hk6.blk HB5.out (by omega)).cell 2 _ rfl
      clear hcn hpn hE hcc hR f1 f2 hH6 hb6 hk6 HF2 h60 hx HPQ HS HSF HZ
      go_quiet (first | (go_at_call 13; exact HCN.out _) | (go_at_call 14; exact HPN.out _))
      go_wp2_with fail
      go_ret
      exact ⟨rfl, below_drewN HB6.out _⟩
    · simp only [hres]
      obtain ⟨B0, hB0⟩ : ∃ B, B = doneB st := ⟨_, rfl⟩
      obtain ⟨B1, hB1⟩ : ∃ B, B = doneB st1 := ⟨_, rfl⟩
      have hd5 := doneS ad h st1 w5 hH5
      rw [← hB1] at hd5 hcase
      rw [← hB0] at hcase ⊢
      have HD5 := Lib.hid hd5
      have HI' := Lib.hid hI'
      have HB5 := Lib.hid (And.intro hH5 (And.intro hCB5 hb5))
      clear hd5 hI' hH5 hCB5 hb5 hres HS HSF HZ HPQ hB0 hB1
      have hG0 : (bs G).size = G.length := bs_size G
      have hL0 : (bs L).size = L.length := bs_size L
      have hex : (bs T).extract n T.length = bs (T.drop n) := by
        have := ext_drop (bs T) n
        rw [bs_l, hzT] at this
        exact this
      have hGm : G.length + (T.length - n) ≤ T.length := by omega
      rcases hcase with ⟨rfl, rfl, hG⟩ | ⟨rfl, rfl⟩ | ⟨rfl, rfl, hG⟩
      · subst hG
        rw [← HTK.out]
        have hG1 : ((bs T).extract 0 n).size = (T.take n).length := by rw [HTK.out, bs_size]
        go_wp2_with (go_at_call 9; refine HD5.out.mono ?_; rintro e w' ⟨rfl, rfl⟩)
        rw [HTK.out, bs_app]
        exact ⟨⟨st1, L ++ T.take n, T.drop n, i + 1, rfl, rfl, val_int (by omega), by rw [List.length_append]; omega, by omega, HI', Lib.hid HB5.out.1, Lib.hid HB5.out.2⟩, by simp [bs_size, strLen]; omega⟩
      · go_wp2_with (go_at_call 9; refine HD5.out.mono ?_; rintro e w' ⟨rfl, rfl⟩)
        rw [bs_app]
        exact ⟨⟨st1, L ++ G, T.drop n, i + 1, rfl, rfl, val_int (by omega), by rw [List.length_append]; omega, by omega, HI', Lib.hid HB5.out.1, Lib.hid HB5.out.2⟩, by simp [bs_size, strLen]; omega⟩
      · subst hG
        rw [show bs [] = ({ data := #[] } : ByteArray) from rfl]
        go_wp2_with (go_at_call 9; refine HD5.out.mono ?_; rintro e w' ⟨rfl, rfl⟩)
        exact ⟨⟨st1, L ++ [], T.drop n, i + 1, rfl, by rw [← bs_app]; rfl, val_int (by omega), by rw [List.length_append]; omega, by omega, HI', Lib.hid HB5.out.1, Lib.hid HB5.out.2⟩, by simp [bs_size, strLen]; omega⟩
end Go.Proofs.YtcopmaceklgfnaaDoor
