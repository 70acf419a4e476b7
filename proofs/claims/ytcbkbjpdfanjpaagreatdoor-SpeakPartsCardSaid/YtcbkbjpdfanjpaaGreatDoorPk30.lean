/-
wire.Out whose bytes lie from B on, wherever its own block lies; String, called again and again. (Printed by tools/wc_gen.py out of Wob.)
-/
import Derived.Test.YtcbkbjpdfanjpaaGreatDoorPk20
namespace Go.Proofs.YtcbkbjpdfanjpaaGreatDoor
open Go.RowKit
set_option maxRecDepth 100000
namespace Wc
open Wob (tO u8I bldI beK beK_len beK_next be4 be4_is tx)
/-- the builder in block b, its row from B on -/
def IsR (B b : Nat) (l : List UInt8) (w : World) : Prop := ∃ p v, (p = Value.pointer none ∨ p = Value.pointer (some ⟨b, 0, none⟩)) ∧ w.heap[b]? = some (.cells #[p, v] tO (0, 0)) ∧ w.ownsRow B 5 1 v l.length (byv l) ∧ v.ownBlock ≠ some b
def UsR (B b : Nat) (l : List UInt8) (w : World) : Prop := ∃ v, w.heap[b]? = some (.cells #[.pointer (some ⟨b, 0, none⟩), v] tO (0, 0)) ∧ w.ownsRow B 5 1 v l.length (byv l) ∧ v.ownBlock ≠ some b
theorem UsR.is {B b : Nat} {l : List UInt8} {w : World} (h : UsR B b l w) : IsR B b l w := let ⟨v, h1, h2, h3⟩ := h; ⟨_, v, .inr rfl, h1, h2, h3⟩
/-- other blocks below B stay -/
structure Kr (B b : Nat) (w w' : World) : Prop where
  k : Keeps (fun q => B ≤ q ∨ q = b) w w'
theorem Kr.refl (B b : Nat) (w : World) : Kr B b w w := ⟨Keeps.refl _ w⟩
theorem Kr.size {B b : Nat} {w w' : World} (h : Kr B b w w') : w.heap.size ≤ w'.heap.size := h.k.size
theorem Kr.trans {B b : Nat} {u v w : World} (h : Kr B b u v) (k : Kr B b v w) : Kr B b u w := ⟨h.k.trans k.k (fun _ _ e => e)⟩
theorem Kr.drew {B b : Nat} {a w : World} (h : Kr B b a w) : Kr B b a w.drew := ⟨h.k.drewN 1⟩
theorem Kr.of_below {B b : Nat} {w w' : World} (h : Below B w w') : Kr B b w w' := ⟨⟨h.os, h.tape, h.output, h.size, fun k _ hn => h.block k (by
  rcases Nat.lt_or_ge k B with h' | h'
  · exact h'
  · exact absurd (.inl h') hn)⟩⟩
theorem Kr.alloc {B b : Nat} {a w : World} (h : Kr B b a w) (o : Obj) : Kr B b a (w.alloc o) := ⟨h.k.alloc o⟩
theorem Kr.setCell {B b : Nat} {a w : World} (h : Kr B b a w) (i : Nat) (v : Value) : Kr B b a (w.setCell ⟨b, i, none⟩ v) := ⟨h.k.set b i v (fun _ => .inr rfl)⟩
theorem Kr.grown {B b : Nat} {a w w' : World} (h : Kr B b a w) {v : Value} (hg : w.grownBy w' v.ownBlock) (hlt : ∀ k, v.ownBlock = some k → B ≤ k) : Kr B b a w' :=
  h.trans ⟨⟨hg.os, hg.tape, hg.output, hg.size, fun k hk hn => hg.block k hk (fun e => hn (.inl (hlt k e.symm)))⟩⟩
theorem own_mono {w : World} {B B' : Nat} {e : TypeId} {size n : Nat} {v : Value} {xs : List Value} (h : w.ownsRow B e size v n xs) (hB : B' ≤ B) : w.ownsRow B' e size v n xs := by
  refine ⟨h.1, h.2.imp id ?_⟩
  rintro ⟨g, cap, cur, hv, hb, hr⟩
  exact ⟨g, cap, cur, hv, Nat.le_trans hB hb, hr⟩
theorem own_same {w w' : World} {B : Nat} {e : TypeId} {size n : Nat} {v : Value} {xs : List Value} (h : w.ownsRow B e size v n xs) (hs : ∀ g, v.ownBlock = some g → w'.heap[g]? = w.heap[g]?) : w'.ownsRow B e size v n xs := by
  refine ⟨h.1, h.2.imp id ?_⟩
  rintro ⟨g, cap, cur, rfl, hb, hg, hr⟩
  exact ⟨g, cap, cur, rfl, hb, by rw [hs g rfl]; exact hg, hr⟩
theorem IsR.keeps {B b : Nat} {l : List UInt8} {w w' : World} {G : Nat → Prop} (h : IsR B b l w) (hk : Keeps G w w') (hb : ¬ G b) (hG : ∀ k, k < w.heap.size → B ≤ k → ¬ G k) : IsR B b l w' := by
  obtain ⟨p, v, hp, hh, hown, hne⟩ := h
  have lt : ∀ (k : Nat) (x : Obj), w.heap[k]? = some x → k < w.heap.size := fun k x h => (Array.getElem?_eq_some_iff.1 h).1
  refine ⟨p, v, hp, by rw [hk.block b (lt _ _ hh) hb]; exact hh, own_same hown (fun g hg => ?_), hne⟩
  rcases hown.2 with ⟨rfl, _⟩ | ⟨g', cap, cur, rfl, hB, hg', _⟩
  · cases hg
  · obtain rfl : g' = g := by simpa [Value.ownBlock] using hg
    exact hk.block g' (lt _ _ hg') (hG g' (lt _ _ hg') hB)
theorem IsR.below {B b : Nat} {l : List UInt8} {w w' : World} (h : IsR B b l w) (hb : Below w.heap.size w w') : IsR B b l w' := h.keeps (Keeps.of_below (F := fun _ => False) hb) (fun e => e) (fun _ _ _ e => e)
/-- nothing written yet: its row may be told from anywhere on -/
theorem IsR.nil {B b : Nat} {w : World} (h : IsR B b [] w) (B' : Nat) : IsR B' b [] w ∨ ∃ g cap cur, w.heap[g]? = some (.cells cur 5 (0, 0)) ∧ B ≤ g ∧ cap = cur.size := by
  obtain ⟨p, v, hp, hh, hown, hne⟩ := h
  rcases hown.2 with ⟨rfl, hz⟩ | ⟨g, cap, cur, hv, hB, hg, _, _, hs, _⟩
  · exact .inl ⟨p, _, hp, hh, ⟨rfl, .inl ⟨rfl, hz⟩⟩, hne⟩
  · exact .inr ⟨g, cap, cur, hg, hB, by omega⟩
theorem fresh (w : World) (B : Nat) : IsR B w.heap.size [] (w.alloc (.cells #[.pointer none, .slice none 0 0] tO)) := ⟨_, _, .inl rfl, (MapKept.heap_alloc w _).1, ⟨rfl, .inl ⟨rfl, rfl⟩⟩, by simp [Value.ownBlock]⟩
theorem check_ok (B b : Nat) (l : List UInt8) (w : World) (h : IsR B b l w) :
    Calls Tryz.prog 85 #[.pointer (some ⟨b, 0, none⟩)] w fun e w' => (UsR B b l w' ∧ Kr B b w w') ∧ ∃ u, e = .returned u := by
  obtain ⟨j, hj, hj2⟩ := bldI
  have hneq : ∀ w', (binOp .neq 67 (.pointer (some ⟨b, 0, none⟩)) (.pointer (some ⟨b, 0, none⟩))).run Tryz.prog w' = .ok (.bool false) w' := fun w' => Lib.run_neq_ptr_same w' ⟨b, 0, none⟩ Tryz.underlying67 hj
  have hcf : ∀ w', (callFunc 102 #[.pointer (some ⟨b, 0, none⟩)]).run Tryz.prog w' = .ok (.value (.pointer (some ⟨b, 0, none⟩))) w' := fun w' => by
    rw [run_callFunc_extern Tryz.func102 (by kernel_rfl) (by kernel_rfl) (by kernel_rfl) (e := Extern.AbiNoEscape.same) (by kernel_rfl), Lib.run_noEscape]
    rfl
  obtain ⟨p, v, hp, hh, hown, hne⟩ := h
  go_enter Tryz.func85, Tryz.ntmps85
  rcases hp with rfl | rfl
  · have BA : Lib.BuilderAt tO 5 0 b (.pointer none) (byv l) w := ⟨Nat.zero_le _, v, hh, by rw [byv_len]; exact own_mono hown (Nat.zero_le _), hne⟩
    have hsh := BA.shape
    have hto : (convert 67 146 (.pointer (some ⟨b, 0, none⟩))).run Tryz.prog w = .ok (.pointer (some ⟨b, 0, none⟩)) w := Lib.run_to_unsafe w ⟨b, 0, none⟩ Tryz.underlying67 Tryz.underlying146 hj (by rw [hj2]; decide) hsh (Nat.zero_lt_succ 1)
    have hfrom : (convert 146 67 (.pointer (some ⟨b, 0, none⟩))).run Tryz.prog w = .ok (.pointer (some ⟨b, 0, none⟩)) w := Lib.run_from_unsafe w ⟨b, 0, none⟩ Tryz.underlying146 Tryz.underlying67 hj hsh (by kernel_rfl)
    have c0 := BA.cell0
    have f0 := BA.frozen0
    have HU : Hid (UsR B b l (w.setCell ⟨b, 0, none⟩ (.pointer (some ⟨b, 0, none⟩))) ∧ Kr B b w (w.setCell ⟨b, 0, none⟩ (.pointer (some ⟨b, 0, none⟩)))) := Lib.hid ⟨⟨v, by
      have hb : Blk w b tO [.pointer none, v] := hh
      exact hb.set 0 (.pointer (some ⟨b, 0, none⟩)), own_same hown (fun g hg => Below.heap_setCell w ⟨b, 0, none⟩ _ g (fun e => hne (by rw [hg]; exact congrArg some e))), hne⟩, (Kr.refl B b w).setCell 0 _⟩
    clear hj hj2 hsh BA hh hown hne
    go_wp2_with fail
    go_end0
    exact ⟨HU.out, _, rfl⟩
  · have c0 : w.cell? ⟨b, 0, none⟩ = some (.pointer (some ⟨b, 0, none⟩)) := by rw [Lib.cell_of_heap hh]; rfl
    have HH : Hid (UsR B b l w) := Lib.hid ⟨v, hh, hown, hne⟩
    clear hj hj2 hh hown hne
    go_wp2_with fail
    go_end0
    exact ⟨⟨HH.out, Kr.refl _ _ _⟩, _, rfl⟩
set_option maxHeartbeats 2000000 in
theorem wbyte_ok (B b : Nat) (l : List UInt8) (x : UInt8) (w : World) (h : IsR B b l w) (hl : l.length < 100000000) (hBw : B ≤ w.heap.size) :
    Calls Tryz.prog 60 #[.pointer (some ⟨b, 0, none⟩), .int .u8 (x.toNat : Nat)] w fun e w' => (IsR B b (l ++ [x]) w' ∧ Kr B b w w') ∧ e = .returned .nilIface := by
  obtain ⟨j0, hj, hj0, hj1, hj2⟩ := u8I
  have J := Lib.hid hj
  have J0 := Lib.hid hj0
  have J1 := Lib.hid hj1
  have J2 := Lib.hid hj2
  clear hj hj0 hj1 hj2
  have HCK := Lib.hid (check_ok B b l w h)
  clear h
  go_enter Tryz.func60, Tryz.ntmps60
  go_upto_region 2 with (go_at_call 85; refine HCK.out.mono ?_; rintro e w1 ⟨⟨h1, hb1⟩, u1, rfl⟩)
  obtain ⟨v, hbk, hown, hne⟩ := h1
  have c1 : w1.cell? ⟨b, 1, none⟩ = some v := by rw [Lib.cell_of_heap hbk]; rfl
  have hs1 := hb1.size
  have HO := Lib.hid (hown.alloc (.cells #[.int .u8 (x.toNat : Nat)] 5))
  have HBK := Lib.hid hbk
  have HNE := Lib.hid hne
  have HB1 := Lib.hid hb1
  have HLT := Lib.hid hown.lt
  clear hbk hne hb1 hown HCK
  go_wp2_with (at_builtin; refine wpList_append_own _ rfl (.tmp 11) (.tmp 13) 68 rfl B 5 j0 (.int .u8 0) 1 1 Tryz.underlying68 J.out J0.out J1.out J2.out rfl (by decide) v l.length _ rfl HO.out ⟨w1.heap.size, 0, none⟩ 1 1 [.int .u8 (x.toNat : Nat)] rfl rfl ?c1 ?c2 ?c3 ?c4 ?c5 ?c6)
  case c1 =>
    intro j u hj
    match j, hj with
    | 0, hj => simp at hj; subst hj; simp [Addr.add]
  case c2 => intro u hu; simp at hu; subst hu; rfl
  case c3 => unfold maxLen; omega
  case c4 => omega
  case c5 => simp; omega
  case c6 =>
    intro v' w2 hown' hgrow _
    have hlt : b < w1.heap.size := by
      rcases Nat.lt_or_ge b w1.heap.size with h' | h'
      · exact h'
      · have e := HBK.out
        simp [Array.getElem?_eq_none h'] at e
    have hb2 : w2.heap[b]? = some (.cells #[.pointer (some ⟨b, 0, none⟩), v] tO (0, 0)) := by
      rw [hgrow.block b (by simp; omega) (fun e => HNE.out e.symm), Lib.alloc_old w1 _ b hlt]
      exact HBK.out
    have d1 : w2.cell? ⟨b, 1, none⟩ = some v := by rw [Lib.cell_of_heap hb2]; rfl
    have f1 : w2.frozen? ⟨b, 1, none⟩ = false := Lib.frozen_of_heap hb2 1
    obtain ⟨g, cap, rfl⟩ : ∃ g cap, v' = .slice (some ⟨g, 0, none⟩) (l.length + 1) cap := by
      rcases hown'.2 with ⟨_, h0⟩ | ⟨g, cap, cur, hv, _⟩
      · omega
      · exact ⟨g, cap, hv⟩
    have HBL := Lib.hid (((HB1.out.alloc (.cells #[.int .u8 (x.toNat : Nat)] 5)).grown hgrow (fun k hk => (HLT.out k hk).1)).setCell 1 (.slice (some ⟨g, 0, none⟩) (l.length + 1) cap))
    have vne : (Value.slice (some ⟨g, 0, none⟩) (l.length + 1) cap).ownBlock ≠ some b := fun e => by
      obtain rfl : g = b := by simpa [Value.ownBlock] using e
      rcases hown'.2 with ⟨_, h0⟩ | ⟨g', cap', cur, hv, _, hg', _⟩
      · omega
      · simp only [Value.slice.injEq, Option.some.injEq, Addr.mk.injEq, and_true, true_and] at hv
        obtain ⟨rfl, rfl⟩ := hv
        rw [hb2] at hg'
        simp only [Option.some.injEq, Obj.cells.injEq] at hg'
        exact absurd hg'.2.1 (by decide)
    have HPUT : Hid (UsR B b (l ++ [x]) (w2.setCell ⟨b, 1, none⟩ (.slice (some ⟨g, 0, none⟩) (l.length + 1) cap))) := Lib.hid ⟨_, (show Blk w2 b tO [.pointer (some ⟨b, 0, none⟩), v] from hb2).set 1 _, own_same (by
      rw [List.length_append, byv_app]
      exact hown') (fun k hk => Below.heap_setCell w2 ⟨b, 1, none⟩ _ k (fun e => vne (by rw [hk]; exact congrArg some e))), vne⟩
    clear hown' hgrow hb2 vne
    go_wp2_with fail
    go_ret
    exact ⟨⟨HPUT.out.is, HBL.out⟩, rfl⟩
set_option maxHeartbeats 2000000 in
theorem wstring_ok (B b : Nat) (l s : List UInt8) (w : World) (h : IsR B b l w) (hl : l.length + s.length < 100000000) (hBw : B ≤ w.heap.size) :
    Calls Tryz.prog 61 #[.pointer (some ⟨b, 0, none⟩), .string (by8 s)] w fun e w' => (IsR B b (l ++ s) w' ∧ Kr B b w w') ∧ ∃ u, e = .returned u := by
  obtain ⟨j0, hj, hj0, hj1, hj2⟩ := u8I
  have J := Lib.hid hj
  have J0 := Lib.hid hj0
  have J1 := Lib.hid hj1
  have J2 := Lib.hid hj2
  clear hj hj0 hj1 hj2
  have HCK := Lib.hid (check_ok B b l w h)
  have hsz : (by8 s).size = s.length := by8_size s
  clear h
  go_enter Tryz.func61, Tryz.ntmps61
  go_upto_region 2 with (go_at_call 85; refine HCK.out.mono ?_; rintro e w1 ⟨⟨h1, hb1⟩, u1, rfl⟩)
  obtain ⟨v, hbk, hown, hne⟩ := h1
  have c1 : w1.cell? ⟨b, 1, none⟩ = some v := by rw [Lib.cell_of_heap hbk]; rfl
  have hs1 := hb1.size
  have HO := Lib.hid hown
  have HBK := Lib.hid hbk
  have HNE := Lib.hid hne
  have HB1 := Lib.hid hb1
  have HLT := Lib.hid hown.lt
  clear hbk hne hb1 hown HCK
  go_wp2_with (at_builtin; refine Lib.wpList_append_own_string _ rfl (.tmp 12) (.tmp 13) 68 9 rfl B 5 j0 Tryz.underlying68 Tryz.underlying9 J.out J0.out J1.out J2.out v l.length _ rfl HO.out (by8 s) rfl ?c3 ?c4 ?c5 ?c6)
  case c3 => unfold maxLen; omega
  case c4 => omega
  case c5 => omega
  case c6 =>
    intro v' w2 hown' hgrow _
    have hb2 : w2.heap[b]? = some (.cells #[.pointer (some ⟨b, 0, none⟩), v] tO (0, 0)) := by
      rw [hgrow.block b (by
        rcases Nat.lt_or_ge b w1.heap.size with h' | h'
        · exact h'
        · have e := HBK.out
          simp [Array.getElem?_eq_none h'] at e) (fun e => HNE.out e.symm)]
      exact HBK.out
    have d1 : w2.cell? ⟨b, 1, none⟩ = some v := by rw [Lib.cell_of_heap hb2]; rfl
    have f1 : w2.frozen? ⟨b, 1, none⟩ = false := Lib.frozen_of_heap hb2 1
    obtain ⟨a, n, c, rfl⟩ : ∃ a n c, v' = .slice a n c := by
      rcases hown'.2 with ⟨hv, _⟩ | ⟨g, cap, cur, hv, _⟩
      · exact ⟨_, _, _, hv⟩
      · exact ⟨_, _, _, hv⟩
    have HBL := Lib.hid ((HB1.out.grown hgrow (fun k hk => (HLT.out k hk).1)).setCell 1 (.slice a n c))
    have vne : (Value.slice a n c).ownBlock ≠ some b := fun e => by
      rcases hown'.2 with ⟨hv, _⟩ | ⟨g', cap', cur, hv, _, hg', _⟩
      · rw [hv] at e
        cases e
      · rw [hv] at e
        obtain rfl : g' = b := by simpa [Value.ownBlock] using e
        rw [hb2] at hg'
        simp only [Option.some.injEq, Obj.cells.injEq] at hg'
        exact absurd hg'.2.1 (by decide)
    have HPUT : Hid (UsR B b (l ++ s) (w2.setCell ⟨b, 1, none⟩ (.slice a n c))) := Lib.hid ⟨_, (show Blk w2 b tO [.pointer (some ⟨b, 0, none⟩), v] from hb2).set 1 _, own_same (by
      have h := hown'
      rw [List.length_append, byv_app]
      exact h) (fun k hk => Below.heap_setCell w2 ⟨b, 1, none⟩ _ k (fun e => vne (by rw [hk]; exact congrArg some e))), vne⟩
    clear hown' hgrow hb2 vne
    go_wp2_with fail
    go_ret2
    exact ⟨⟨HPUT.out.is, HBL.out⟩, _, rfl⟩
set_option maxHeartbeats 4000000 in
theorem put_ok (B b : Nat) (l : List UInt8) (K N : Nat) (w : World) (h : IsR B b l w) (hl : l.length < 1000000) (hK : K ≤ 8) (hBw : B ≤ w.heap.size) :
    Calls Tryz.prog 59 #[.pointer (some ⟨b, 0, none⟩), .int .u64 (N : Nat), .int .i64 (K : Nat)] w fun e w' => (IsR B b (l ++ beK K N) w' ∧ Kr B b w w') ∧ e = .returned (.pointer (some ⟨b, 0, none⟩)) := by
  go_enter Tryz.func59, Tryz.ntmps59
  go_upto_region 2 with fail
  have H0 : Hid (IsR B b (l ++ (beK K N).take 0) w ∧ Kr B b w w) := Lib.hid ⟨by rw [List.take_zero, List.append_nil]; exact h, Kr.refl _ _ _⟩
  clear h
  go_loopw [7] (fun v wx => ∃ i : Nat, v = .int .i64 ((K : Int) - 1 - i) ∧ i ≤ K ∧ Hid (IsR B b (l ++ (beK K N).take i) wx ∧ Kr B b w wx)) (fun v _ => (intOf v + 1).toNat)
  case atStart => exact ⟨0, by go_num, by omega, H0⟩
  case round =>
    obtain ⟨i, rfl, hi, hr⟩ := hrel
    clear H0
    by_cases hgo : i < K
    · go_upto_region 4 with fail
      have hWB : Hid (∀ x, lo8 ((N / 256 ^ (K - 1 - i) : Nat) : Int) = x → Calls Tryz.prog 60 #[.pointer (some ⟨b, 0, none⟩), .int .u8 (x.toNat : Nat)] wr.drew fun e w' => e = .returned .nilIface ∧ IsR B b (l ++ (beK K N).take (i + 1)) w' ∧ Kr B b w w') := fun x hx => by
        refine (wbyte_ok B b (l ++ (beK K N).take i) x wr.drew hr.out.1 ?_ ?_).mono ?_
        · rw [List.length_append, List.length_take, beK_len]; omega
        · exact Nat.le_trans hBw (hr.out.2.drew).size
        · rintro e w3 ⟨⟨h1, h2⟩, rfl⟩
          rw [beK_next K N i hgo, ← List.append_assoc, hx]
          exact ⟨rfl, h1, hr.out.2.drew.trans h2⟩
      obtain ⟨q, hq⟩ : ∃ q, q = K - 1 - i := ⟨_, rfl⟩
      have hqi : ((K : Int) - 1 - i) = (q : Int) := by omega
      have hq8 : q ≤ 7 := by omega
      rw [← hq] at hWB
      have HQ := Lib.hid (And.intro hq hqi)
      rw [hqi]
      have HM : Hid (IntKind.i64.wrap (8 * (q : Int)) = 8 * (q : Int)) := Lib.hid (by rw [IntKind.wrap_i64]; omega)
      have HP : Hid ((N : Int) / 2 ^ (8 * (q : Int)).toNat = (N : Int) / 256 ^ q) := Lib.hid (by
        rw [show (8 * (q : Int)).toNat = 8 * q by omega, Int.pow_mul]
        rfl)
      have HL := Lib.hid (lo8_val ((N / 256 ^ q : Nat) : Int))
      have hkq : q + 1 + i = K := by omega
      clear hq hqi
      refine region_two 8 (D2 wr.drew (fun w' => IsR B b (l ++ (beK K N).take (i + 1)) w' ∧ Kr B b w w')) (by kernel_rfl) (by kernel_rfl) (by decide) rfl ?_
      (refine two_step (fun K hK => ?_); refine two_quietK (.pointer (some ⟨b, 0, none⟩)) (by decide) (by first | rfl | simp [Region.wanted, yielded]) (fun d w' hw' => by go_simp) ?_; go_simp; (with_reducible apply hK); clear hK K)
      (refine two_step (fun K hK => ?_); refine two_quietK (.pointer (some ⟨b, 0, none⟩)) (by decide) (by first | rfl | simp [Region.wanted, yielded]) (fun d w' hw' => by go_simp) ?_; go_simp; (with_reducible apply hK); clear hK K)
      (refine two_step (fun K hK => ?_); refine two_quietK (.pointer (some ⟨b, 0, none⟩)) (by decide) (by first | rfl | simp [Region.wanted, yielded]) (fun d w' hw' => by go_simp) ?_; go_simp; (with_reducible apply hK); clear hK K)
      (refine two_step (fun K hK => ?_); refine two_quietK (.int .u64 (N : Nat)) (by decide) (by first | rfl | simp [Region.wanted, yielded]) (fun d w' hw' => by go_simp) ?_; go_simp; (with_reducible apply hK); clear hK K)
      (refine two_step (fun K hK => ?_); refine two_quietK (.int .i64 (q : Int)) (by decide) (by first | rfl | simp [Region.wanted, yielded]) (fun d w' hw' => by go_simp) ?_; go_simp; (with_reducible apply hK); clear hK K)
      (refine two_step (fun K hK => ?_); refine two_quietK (.int .i64 (8 * (q : Int))) (by decide) (by first | rfl | simp [Region.wanted, yielded]) (fun d w' hw' => by go_simp; rw [HM.out]) ?_; go_simp; (with_reducible apply hK); clear hK K)
      (refine two_step (fun K hK => ?_); refine two_quietK (.int .u64 ((N / 256 ^ q : Nat) : Int)) (by decide) (by first | rfl | simp [Region.wanted, yielded]) (fun d w' hw' => by go_simp; try simp only [HP.out]) ?_; go_simp; (with_reducible apply hK); clear hK K)
      (refine two_step (fun K hK => ?_); refine two_quietK (.int .u8 ((lo8 ((N / 256 ^ q : Nat) : Int)).toNat : Nat)) (by decide) (by first | rfl | simp [Region.wanted, yielded]) (fun d w' hw' => by rw [← HL.out]; go_simp) ?_; go_simp; (with_reducible apply hK); clear hK K)
      (refine two_step (fun K hK => ?_); refine two_writeK (.nilIface) 60 #[.pointer (some ⟨b, 0, none⟩), .int .u8 ((lo8 ((N / 256 ^ q : Nat) : Int)).toNat : Nat)] (by first | rfl | simp [Region.wanted, yielded]) (fun w' => by go_simp) (fun w' hw' => by
            have e : w' = wr.drew := hw'
            subst e
            exact hWB.out _ rfl) ?_; go_simp; (with_reducible apply hK); clear hK K)
      refine wpTwo_nil ?_
      rintro w3 h3
      have H3 := Lib.hid h3
      clear h3 hr hWB
      go_wp2_with fail
      go_roundw
      case rel => exact ⟨i + 1, by go_num, by omega, H3⟩
      case measure => simp [intOf]; omega
    · obtain rfl : i = K := by omega
      have HT : Hid (List.take i (beK i N) = beK i N) := List.take_of_length_le (by rw [beK_len]; exact Nat.le_refl _)
      rw [HT.out] at hr
      go_wp2_with fail
      go_ret
      exact ⟨hr.out, rfl⟩
theorem put4_ok (B b : Nat) (l : List UInt8) (N : Nat) (w : World) (h : IsR B b l w) (hl : l.length < 1000000) (hBw : B ≤ w.heap.size) :
    Calls Tryz.prog 59 #[.pointer (some ⟨b, 0, none⟩), .int .u64 (N : Nat), .int .i64 4] w fun e w' => (IsR B b (l ++ be4 N) w' ∧ Kr B b w w') ∧ e = .returned (.pointer (some ⟨b, 0, none⟩)) := by
  have h1 := put_ok B b l 4 N w h hl (by decide) hBw
  rw [be4_is] at h1
  exact h1
set_option maxHeartbeats 1000000 in
theorem u32_ok (B b : Nat) (l : List UInt8) (N : Nat) (w : World) (h : IsR B b l w) (hl : l.length < 1000000) (hN : N < 4294967296) (hBw : B ≤ w.heap.size) :
    Calls Tryz.prog 26 #[.pointer (some ⟨b, 0, none⟩), .int .u32 (N : Nat)] w fun e w' => (IsR B b (l ++ be4 N) w' ∧ Kr B b w w') ∧ e = .returned (.pointer (some ⟨b, 0, none⟩)) := by
  have P := Lib.hid (put4_ok B b l N w h hl hBw)
  clear h
  generalize be4 N = R at *
  go_enter Tryz.func26, Tryz.ntmps26
  go_wp2_with (go_at_call 59; refine P.out.mono ?_; rintro e w2 ⟨hb, rfl⟩)
  go_ret
  exact ⟨hb, rfl⟩
set_option maxHeartbeats 1000000 in
theorem raw_ok (B b : Nat) (l s : List UInt8) (w : World) (h : IsR B b l w) (hl : l.length + s.length < 100000000) (hBw : B ≤ w.heap.size) :
    Calls Tryz.prog 28 #[.pointer (some ⟨b, 0, none⟩), .string (by8 s)] w fun e w' => (IsR B b (l ++ s) w' ∧ Kr B b w w') ∧ e = .returned (.pointer (some ⟨b, 0, none⟩)) := by
  have P := Lib.hid (wstring_ok B b l s w h hl hBw)
  clear h
  go_enter Tryz.func28, Tryz.ntmps28
  go_wp2_with (go_at_call 61; refine P.out.mono ?_; rintro e w2 ⟨hb, u, rfl⟩)
  go_ret
  exact ⟨hb, rfl⟩
set_option maxHeartbeats 1000000 in
theorem obyte_ok (B b : Nat) (l : List UInt8) (x : UInt8) (w : World) (h : IsR B b l w) (hl : l.length < 1000000) (hBw : B ≤ w.heap.size) :
    Calls Tryz.prog 27 #[.pointer (some ⟨b, 0, none⟩), .int .u8 (x.toNat : Nat)] w fun e w' => (IsR B b (l ++ [x]) w' ∧ Kr B b w w') ∧ e = .returned (.pointer (some ⟨b, 0, none⟩)) := by
  have P := Lib.hid (wbyte_ok B b l x w h (by omega) hBw)
  clear h
  go_enter Tryz.func27, Tryz.ntmps27
  go_wp2_with (go_at_call 60; refine P.out.mono ?_; rintro e w2 ⟨hb, rfl⟩)
  go_ret
  exact ⟨hb, rfl⟩
/-! ### String, called again and again -/
def StB (b g : Nat) (l : List UInt8) (w : World) : Prop := ∃ p m cap cur mk, w.heap[b]? = some (.cells #[p, .slice (some ⟨g, 0, none⟩) l.length cap] tO m) ∧ w.heap[g]? = some (.cells cur 5 mk) ∧ l.length ≤ cap ∧ cap ≤ maxLen ∧ cur.size = cap ∧ cur.toList.take l.length = byv l
theorem StB.lt {b g : Nat} {l : List UInt8} {w : World} (h : StB b g l w) : b < w.heap.size ∧ g < w.heap.size := by
  obtain ⟨p, m, cap, cur, mk, h1, h2, _⟩ := h
  exact ⟨(Array.getElem?_eq_some_iff.1 h1).1, (Array.getElem?_eq_some_iff.1 h2).1⟩
theorem StB.keeps {b g : Nat} {l : List UInt8} {w w' : World} {G : Nat → Prop} (h : StB b g l w) (hk : Keeps G w w') (hb : ¬ G b) (hg : ¬ G g) : StB b g l w' := by
  have hl := h.lt
  obtain ⟨p, m, cap, cur, mk, h1, h2, h3⟩ := h
  exact ⟨p, m, cap, cur, mk, by rw [hk.block b hl.1 hb]; exact h1, by rw [hk.block g hl.2 hg]; exact h2, h3⟩
theorem StB.below {b g : Nat} {l : List UInt8} {w w' : World} (h : StB b g l w) (hb : Below w.heap.size w w') : StB b g l w' := h.keeps (Keeps.of_below (F := fun _ => False) hb) (fun e => e) (fun e => e)
theorem IsR.st {B b : Nat} {l : List UInt8} {w : World} (h : IsR B b l w) (h0 : l ≠ []) : ∃ g, B ≤ g ∧ g ≠ b ∧ StB b g l w := by
  obtain ⟨p, v, _, hh, hown, hne⟩ := h
  rcases hown.2 with ⟨_, hz⟩ | ⟨g, cap, cur, rfl, hB, hg, hn, hc, hs, ht⟩
  · exact absurd (List.eq_nil_of_length_eq_zero hz) h0
  · refine ⟨g, hB, fun e => hne (by rw [e]; rfl), p, (0, 0), cap, cur, (0, 0), hh, hg, hn, hc, by omega, ?_⟩
    rw [Nat.mul_one] at ht
    exact ht
theorem freeze_keeps (w : World) (g n : Nat) : Keeps (fun k => k = g) w (w.freeze ⟨g, 0, none⟩ n) := by
  unfold World.freeze
  split
  · exact Keeps.refl _ _
  · exact ⟨rfl, rfl, rfl, by simp, fun k _ hn => by
      show (w.heap.modify g _)[k]? = _
      rw [Array.getElem?_modify, if_neg (fun e => hn e.symm)]⟩
theorem freeze_blk {w : World} {g n : Nat} {cur : Array Value} {t : TypeId} {mk : Nat × Nat} (h : w.heap[g]? = some (.cells cur t mk)) : ∃ mk', (w.freeze ⟨g, 0, none⟩ n).heap[g]? = some (.cells cur t mk') := by
  unfold World.freeze
  split
  · exact ⟨mk, h⟩
  · obtain ⟨lo, hi⟩ := mk
    refine ⟨if lo == hi then (0, 0 + n) else (min lo 0, max hi (0 + n)), ?_⟩
    show (w.heap.modify g _)[g]? = _
    rw [Array.getElem?_modify, if_pos rfl, h]
    rfl
set_option maxHeartbeats 2000000 in
theorem wstr_ok (b g : Nat) (l : List UInt8) (w : World) (h : StB b g l w) (h0 : l ≠ []) :
    Calls Tryz.prog 66 #[.pointer (some ⟨b, 0, none⟩)] w fun e w' => e = .returned (.string ⟨l.toArray⟩) ∧ StB b g l w' ∧ Keeps (fun k => k = g) w w' := by
  have hl0 : l.length ≠ 0 := by simpa using h0
  have HS := Lib.hid h
  obtain ⟨p, m, cap, cur, mk, hb, hg, hnc, hcm, hcs, htake⟩ := h
  have c1 : w.drew.cell? ⟨b, 1, none⟩ = some (.slice (some ⟨g, 0, none⟩) l.length cap) := by
    have : w.drew.heap[b]? = some (.cells #[p, .slice (some ⟨g, 0, none⟩) l.length cap] tO m) := hb
    simp [World.cell?, this]
  have hSD : (Builtin.unsafeSliceData_ #[68] 133 #[.slice (some ⟨g, 0, none⟩) l.length cap]).run Tryz.prog w.drew = .ok (.pointer (some ⟨g, 0, none⟩)) w.drew :=
    Lib.run_unsafeSliceData_row _ _ _ _ _ _ (by omega)
  have hUS : (Builtin.unsafeString_ #[133, 3] 9 #[.pointer (some ⟨g, 0, none⟩), .int .i64 l.length]).run Tryz.prog w.drew = .ok (.string ⟨l.toArray⟩) (w.drew.freeze ⟨g, 0, none⟩ l.length) := by
    refine Lib.run_unsafeString_row w.drew 133 3 9 5 Tryz.underlying133 (by kernel_rfl) g cur.size (by have hg' : w.drew.heap[g]? = some (.cells cur 5 mk) := hg; simp [World.shape?, hg']) l h0 (by omega) (by unfold maxLen at hcm; omega) ?_
    intro j x hx
    have hg' : w.drew.heap[g]? = some (.cells cur 5 mk) := hg
    have hj := (List.getElem?_eq_some_iff.1 hx).1
    have hb8 : (byv l)[j]? = some (.int .u8 x.toNat) := by simp [byv, hx]
    rw [← htake, List.getElem?_take_of_lt hj, Array.getElem?_toList] at hb8
    rw [Addr.add_lit, Nat.zero_add]
    simp only [World.cell?, hg', Option.isSome_none, Bool.false_eq_true, if_false]
    exact hb8
  have mixed : Tryz.prog.follows .mixedOrders = true := by kernel_rfl
  have FIN : Hid (StB b g l (w.drew.freeze ⟨g, 0, none⟩ l.length) ∧ Keeps (fun k => k = g) w (w.drew.freeze ⟨g, 0, none⟩ l.length)) := Lib.hid (by
    have hk := freeze_keeps w.drew g l.length
    obtain ⟨mk', hfb⟩ := freeze_blk (w := w.drew) (n := l.length) (show w.drew.heap[g]? = _ from hg)
    have hgb : b ≠ g := fun e => by
      rw [e] at hb
      rw [hb] at hg
      simp only [Option.some.injEq, Obj.cells.injEq] at hg
      exact absurd hg.2.1 (by decide)
    exact ⟨⟨p, m, cap, cur, mk', by rw [hk.block b (Array.getElem?_eq_some_iff.1 (show w.drew.heap[b]? = _ from hb)).1 hgb]; exact hb, hfb, hnc, hcm, hcs, htake⟩, ((Keeps.refl (fun k => k = g) w).drewN 1).trans hk (fun _ _ e => e)⟩)
  clear hb hg hnc hcm hcs htake
  go_enter Tryz.func66, Tryz.ntmps66
  go_wp2
  go_region_o
  all_goals (go_wp2; go_ret; exact ⟨rfl, FIN.out.1, FIN.out.2⟩)
set_option maxHeartbeats 1000000 in
theorem obytes_ok (b g : Nat) (l : List UInt8) (w : World) (h : StB b g l w) (h0 : l ≠ []) :
    Calls Tryz.prog 30 #[.pointer (some ⟨b, 0, none⟩)] w fun e w' => e = .returned (.string (by8 l)) ∧ StB b g l w' ∧ Keeps (fun k => k = g) w w' := by
  have P := Lib.hid (wstr_ok b g l w h h0)
  clear h
  go_enter Tryz.func30, Tryz.ntmps30
  go_wp2_with (go_at_call 66; refine P.out.mono ?_; rintro e w2 ⟨rfl, hs, hb⟩)
  go_ret
  exact ⟨rfl, hs, hb⟩
end Wc
end Go.Proofs.YtcbkbjpdfanjpaaGreatDoor
