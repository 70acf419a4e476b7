/-
hmac: Spread.
-/
import Derived.Test.YtppjniogblgdcaaDoorHma2
namespace Go.Proofs.YtppjniogblgdcaaDoor
open Go.RowKit Cha Sha Hm
set_option maxRecDepth 100000
theorem owns_rw {w w' : World} {B : Nat} {e : TypeId} {k : Nat} {v : Value} {n : Nat} {xs : List Value} (h : w.ownsRow B e k v n xs) (hb : Rw w w') : w'.ownsRow B e k v n xs := by
  obtain ⟨hl, h | ⟨g, cap, cur, h1, h2, h3, h4⟩⟩ := h
  · exact ⟨hl, .inl h⟩
  · exact ⟨hl, .inr ⟨g, cap, cur, h1, h2, (hb.block g (Array.getElem?_eq_some_iff.1 h3).1).trans h3, h4⟩⟩
theorem isb_rw {w w' : World} {B b : Nat} {bs : List Value} (h : IsB B b bs w) (hb : Rw w w') : IsB B b bs w' := by
  have key : ∀ p, Lib.BuilderAt 43 5 B b p bs w → Lib.BuilderAt 43 5 B b p bs w' := fun p ⟨h1, v, h2, h3, h4⟩ =>
    ⟨h1, v, (hb.block b (Array.getElem?_eq_some_iff.1 h2).1).trans h2, owns_rw h3 hb, h4⟩
  exact h.elim (fun x => .inl (key _ x)) (fun x => .inr (key _ x))
namespace Hm
def lastN (T F : List Int) (key label : List UInt8) : Nat → List UInt8
  | 0 => []
  | j + 1 => hmacF T F key (lastN T F key label j ++ (label ++ [lo8 ((j : Int) + 1)]))
def outN (T F : List Int) (key label : List UInt8) : Nat → List UInt8
  | 0 => []
  | j + 1 => outN T F key label j ++ lastN T F key label (j + 1)
end Hm
theorem last_len {w : World} {T F : List Int} (hT : ShaT w T F) (key label : List UInt8) (j : Nat) : (lastN T F key label (j + 1)).length = 32 := S256_len hT _
theorem last_le {w : World} {T F : List Int} (hT : ShaT w T F) (key label : List UInt8) (j : Nat) : (lastN T F key label j).length ≤ 32 := by
  cases j with
  | zero => exact Nat.zero_le _
  | succ j => rw [last_len hT]; exact Nat.le_refl _
theorem outN_len {w : World} {T F : List Int} (hT : ShaT w T F) (key label : List UInt8) : ∀ j, (outN T F key label j).length = 32 * j
  | 0 => rfl
  | j + 1 => by
    unfold outN
    rw [List.length_append, outN_len hT key label j, last_len hT]; omega
def spreadL (T F : List Int) (key label : List UInt8) (n : Nat) : List UInt8 := (outN T F key label ((n + 31) / 32)).take n
set_option maxHeartbeats 4000000 in
theorem spread_ok (T F : List Int) (key label : List UInt8) (n : Nat) (hn : n ≤ 8160) (hl : key.length ≤ 100000) (hlb : label.length ≤ 1000) (w : World) (hT : ShaT w T F) (hg : ShaG w) :
    Calls Tryd.prog 5 #[.string (by8 key), .string (by8 label), .int .i64 n] w fun e w' => e = .returned (.string (by8 (spreadL T F key label n))) ∧ Below w.heap.size w w' := by
  obtain ⟨L, hL⟩ : ∃ L : Nat → List UInt8, L = lastN T F key label := ⟨_, rfl⟩
  obtain ⟨O, hO⟩ : ∃ O : Nat → List UInt8, O = outN T F key label := ⟨_, rfl⟩
  have hgoal : spreadL T F key label n = (O ((n + 31) / 32)).take n := by rw [hO]; rfl
  rw [hgoal]
  have lO : Hid (∀ j, (O j).length = 32 * j) := Lib.hid fun j => by rw [hO]; exact outN_len hT _ _ _
  have lL : Hid (∀ j, (L (j + 1)).length = 32) := Lib.hid fun j => by rw [hL]; exact last_len hT _ _ _
  have sO : Hid (∀ j, O (j + 1) = O j ++ L (j + 1)) := Lib.hid fun j => by rw [hO, hL]; rfl
  have O0 : Hid (O 0 = [] ∧ L 0 = []) := Lib.hid ⟨by rw [hO]; rfl, by rw [hL]; rfl⟩
  have hsum : Hid (∀ (j lb : Nat) (ty : TypeId) w', Below w.heap.size w w' → Blk w' lb ty (vS [by8 (L j), by8 label, by8 [lo8 ((j : Int) + 1)]]) → Calls Tryd.prog 13 #[.string (by8 key), .slice (some ⟨lb, 0, none⟩) 3 3] w' fun e w'' => e = .returned (.agg (byv (L (j + 1))).toArray) ∧ Below w'.heap.size w' w'') := Lib.hid fun j lb ty w' hb hB => by
    have hs := hb.size
    have hc : catL [by8 (L j), by8 label, by8 [lo8 ((j : Int) + 1)]] = L j ++ (label ++ [lo8 ((j : Int) + 1)]) := by rw [catL_cons, catL_cons, catL_one]
    have := hsum_ok T F key [by8 (L j), by8 label, by8 [lo8 ((j : Int) + 1)]] 3 lb ty rfl (by decide) (by decide) hl (by
      rw [hc, List.length_append, List.length_append, hL]
      have := last_le hT key label j
      simp only [List.length_cons, List.length_nil]; omega) w' hB (hT.below hb) ⟨by have := hg.1; omega, by have := hg.2; omega⟩
    rw [hc, show hmacF T F key (L j ++ (label ++ [lo8 ((j : Int) + 1)])) = L (j + 1) by rw [hL]; rfl] at this
    exact this
  have hn0 : (n : Int) ≤ 8160 := by omega
  have hmin : min (n : Int) 8160 = n := by omega
  have hmax : max 0 (n : Int) = n := by omega
  have hZ : Hid ((byv (List.replicate 32 (0 : UInt8))).length = 32) := Lib.hid rfl
  clear hL hO hgoal hl hlb hT hg
  go_enter Tryd.func5, Tryd.ntmps5
  go_upto_region 3 with fail
  refine wp_gen (fun wx => IsB w.heap.size w.heap.size (byv (O 0)) wx ∧ Below w.heap.size w wx) ⟨by rw [O0.out.1]; exact Lib.fresh_isBuilder _ _ _, below1 _ _⟩ ?_
  rintro w1 ⟨B1, BW1⟩
  have H1 := Lib.hid (And.intro B1 BW1)
  clear B1 BW1
  go_wp2_with fail
  go_loopw [8, 9] (fun v8 v9 wx => ∃ j : Nat, v8 = .string (by8 (L j)) ∧ v9 = .int .i64 ((j : Int) + 1) ∧ j ≤ 255 ∧ (j = 0 ∨ 32 * j < n + 32) ∧ Hid (IsB w.heap.size w.heap.size (byv (O j)) wx ∧ Below w.heap.size w wx)) (fun _ v _ => 400 - (intOf v).toNat)
  case atStart => exact ⟨0, by rw [O0.out.2]; rfl, rfl, by omega, .inl rfl, H1⟩
  case round =>
    obtain ⟨j, rfl, rfl, hj, hjn, hr⟩ := hrel
    clear H1
    obtain ⟨j32, hj32⟩ : ∃ q, q = 32 * j := ⟨_, rfl⟩
    have hlen : Hid (Calls Tryd.prog 12 #[.pointer (some ⟨w.heap.size, 0, none⟩)] wr fun e w' => e = .returned (.int .i64 (j32 : Nat)) ∧ wr = w') := Lib.hid (by
      have := sh_len w.heap.size w.heap.size _ wr hr.out.1
      rw [byv_len, lO.out j, ← hj32] at this
      exact this.mono fun e w' ⟨h1, h2⟩ => ⟨h1, h2.symm⟩)
    have HJ := Lib.hid (And.intro hj32 hjn)
    rcases Nat.lt_or_ge j32 n with h | h
    · have hd : ((j32 : Int) < (n : Int)) = True := eq_true (by omega)
      have hj254 : j ≤ 254 := by omega
      clear hj32 hjn
      obtain ⟨x, hx⟩ : ∃ x, x = lo8 ((j : Int) + 1) := ⟨_, rfl⟩
      have hv : ((x.toNat : Nat) : Int) = (j : Int) + 1 := by rw [hx, ← lo8_val']; omega
      have hcv : (convert 25 9 (.slice (some ⟨wr.heap.size, 0, none⟩) 1 1)).run Tryd.prog (wr.alloc (.cells #[.int .u8 (x.toNat : Nat)] 5)) = .ok (.string (by8 [x])) (wr.alloc (.cells #[.int .u8 (x.toNat : Nat)] 5)) := (Blk.new wr 5 (byv [x])).str8 1 rfl
      rw [hv] at hcv
      have hsm : Hid (∀ (lb : Nat) (ty : TypeId) w', Below w.heap.size w w' → Blk w' lb ty [.string (by8 (L j)), .string (by8 label), .string (by8 [x])] → Calls Tryd.prog 13 #[.string (by8 key), .slice (some ⟨lb, 0, none⟩) 3 3] w' fun e w'' => e = .returned (.agg (byv (L (j + 1))).toArray) ∧ Below w'.heap.size w' w'') := Lib.hid fun lb ty w' hb hB => by
        rw [hx] at hB
        exact hsum.out j lb ty w' hb hB
      have l32 : Hid ((byv (L (j + 1))).length = 32 ∧ (L (j + 1)).length = 32) := Lib.hid ⟨by rw [byv_len, lL.out j], lL.out j⟩
      have BA : Hid (Rw wr (wr.alloc (.cells #[.int .u8 ((j : Int) + 1)] 5))) := Lib.hid (below1 _ _)
      clear hx hv
      go_upto_region 8 with (first
        | (go_at_call 12; refine hlen.out.mono ?_; rintro e w2 ⟨rfl, rfl⟩)
        | (go_at_call 13; refine (hsm.out _ _ _ (Rw.out (Rw.out hr.out.2 BA.out) (below1 _ _)) (Blk.new2 wr (.cells #[.int .u8 ((j : Int) + 1)] 5) 9 [.string (by8 (L j)), .string (by8 label), .string (by8 [x])])).mono ?_; rintro e w3 ⟨rfl, hb3⟩; have H3 := Lib.hid (Rw.trans (Rw.trans BA.out (below1 _ _)) hb3); clear hb3)
        | refine store_blk (Blk.new w3 24 (byv (List.replicate 32 0))) arr32_size' l32.out.1 hZ.out (byv_one _) rfl rfl rfl rfl ?_)
      refine wp_gen (fun wx => Blk wx w3.heap.size 24 (byv (L (j + 1))) ∧ IsB w.heap.size w.heap.size (byv (O j)) wx ∧ Below w.heap.size w wx) ⟨(Blk.new w3 24 (byv (List.replicate 32 0))).setRow _, ?isb, below_row (Rw.out (Rw.out hr.out.2 H3.out) (below1 _ _)) _ _ (Nat.le_trans hr.out.2.size H3.out.size)⟩ ?_
      case isb => exact isb_rw hr.out.1 (Rw.trans H3.out (below_row (below1 w3 _) _ _ (Nat.le_refl _)))
      rintro w4 ⟨B4, I4, BW4⟩
      have hcv4 := B4.str8 32 l32.out.2.symm
      have HI := Lib.hid (And.intro I4 BW4)
      have hbl : Hid ((byv (O j)).length + (by8 (L (j + 1))).size ≤ 140737488355328) := Lib.hid (by rw [byv_len, by8_size, lO.out j, l32.out.2]; omega)
      clear B4 I4 BW4 hcv
      go_upto_region 6 with (go_at_call 14; refine (sh_wstring w.heap.size w.heap.size _ _ _ HI.out.1 hbl.out HI.out.2.size).mono ?_; rintro e w5 ⟨rfl, hB5, hb5⟩)
      have HS : Hid (IsB w.heap.size w.heap.size (byv (O (j + 1))) w5 ∧ Below w.heap.size w w5) := Lib.hid ⟨.inr (by rw [sO.out j, byv_app]; exact hB5), HI.out.2.trans hb5⟩
      clear hB5 hb5 hr
      have hj1 : ((j + 1 : Nat) : Int) + 1 = (j : Int) + 1 + 1 := by omega
      go_wp2_with fail
      go_roundw
      case rel => exact ⟨j + 1, rfl, by rw [hj1], by omega, .inr (by have := HJ.out; omega), HS⟩
      case measure => simp [intOf]; omega
    · have hd : ((j32 : Int) < (n : Int)) = False := eq_false (by omega)
      have hje : j = (n + 31) / 32 := by omega
      have hsz : (by8 (O j)).size = j32 := by rw [by8_size, lO.out j, hj32]
      have hx : (by8 (O j)).extract 0 n = by8 ((O j).take n) := by8_take _ _
      have HE := Lib.hid hje
      have hj8 : j32 ≤ 8160 := by omega
      clear hj32 hjn hje
      have hstr := Lib.hid (sh_string w.heap.size w.heap.size (O j) wr hr.out.1 hr.out.2.size)
      go_wp2_with (first
        | (go_at_call 12; refine hlen.out.mono ?_; rintro e w2 ⟨rfl, rfl⟩)
        | (go_at_call 15; refine hstr.out.mono ?_; rintro e w3 ⟨rfl, hb3⟩; rw [show (⟨(O j).toArray⟩ : ByteArray) = by8 (O j) from rfl]))
      go_ret
      exact ⟨by rw [← HE.out]; rfl, hr.out.2.trans hb3⟩
end Go.Proofs.YtppjniogblgdcaaDoor
