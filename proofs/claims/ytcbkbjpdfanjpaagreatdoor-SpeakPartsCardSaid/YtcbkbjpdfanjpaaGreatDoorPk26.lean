/-
wire.Out: what else its calls leave as it is: blocks of other types. (Printed by tools/wa_gen.py out of Wob.)
-/
import Derived.Test.YtcbkbjpdfanjpaaGreatDoorPk20
namespace Go.Proofs.YtcbkbjpdfanjpaaGreatDoor
open Go.RowKit
set_option maxRecDepth 100000
namespace Wa
open Wob (tO IsO u8I bldI beK beK_len beK_next be4 be4_is tx)
/-- blocks of other types stay -/
def KT (w w' : World) : Prop := ∀ (k : Nat) (cs : Array Value) (t : TypeId) (m : Nat × Nat), w.heap[k]? = some (.cells cs t m) → t ≠ 5 → t ≠ tO → w'.heap[k]? = some (.cells cs t m)
structure Bt (B : Nat) (w w' : World) : Prop where
  b : Below B w w'
  k : KT w w'
theorem KT.refl (w : World) : KT w w := fun _ _ _ _ h _ _ => h
theorem KT.trans {a b c : World} (h : KT a b) (k : KT b c) : KT a c := fun i cs t m h0 h1 h2 => k i cs t m (h i cs t m h0 h1 h2) h1 h2
theorem KT.below {w w' : World} (h : Below w.heap.size w w') : KT w w' := fun i cs t m h0 _ _ => by
  rw [h.block i (Array.getElem?_eq_some_iff.1 h0).1]; exact h0
theorem KT.blk {w w' : World} (h : KT w w') {b : Nat} {t : TypeId} {cs : List Value} (hb : Blk w b t cs) (h1 : t ≠ 5) (h2 : t ≠ tO) : Blk w' b t cs := h b _ t _ hb h1 h2
theorem Bt.refl (B : Nat) (w : World) : Bt B w w := ⟨Below.refl B w, KT.refl w⟩
theorem Bt.size {B : Nat} {w w' : World} (h : Bt B w w') : w.heap.size ≤ w'.heap.size := h.b.size
theorem Bt.trans {B : Nat} {a b c : World} (h : Bt B a b) (k : Bt B b c) : Bt B a c := ⟨h.b.trans k.b, h.k.trans k.k⟩
theorem Bt.drew {B : Nat} {a b : World} (h : Bt B a b) : Bt B a b.drew := ⟨h.b.drew, h.k⟩
theorem Bt.of_below {B : Nat} {w w' : World} (h : Below w.heap.size w w') (hB : B ≤ w.heap.size) : Bt B w w' := ⟨h.mono hB, KT.below h⟩
theorem Bt.alloc {B : Nat} {a w : World} (h : Bt B a w) (hB : B ≤ w.heap.size) (o : Obj) : Bt B a (w.alloc o) := ⟨h.b.alloc hB o, h.k.trans (KT.below (below1 w o))⟩
theorem Bt.setCell {B : Nat} {a w : World} (h : Bt B a w) {b i : Nat} (hB : B ≤ b) {c : Array Value} {m : Nat × Nat} (hb : w.heap[b]? = some (.cells c tO m)) (v : Value) : Bt B a (w.setCell ⟨b, i, none⟩ v) :=
  ⟨h.b.setCell (p := ⟨b, i, none⟩) hB v, h.k.trans (fun k cs t m' h0 _ h2 => by
    rw [Below.heap_setCell w ⟨b, i, none⟩ v k (fun e => by
      have e' : k = b := e
      subst e'
      rw [h0] at hb
      simp only [Option.some.injEq, Obj.cells.injEq] at hb
      exact h2 hb.2.1)]
    exact h0)⟩
theorem Bt.grown {B : Nat} {a w w' : World} (h : Bt B a w) {v : Value} {n : Nat} {xs : List Value} (hown : w.ownsRow B 5 1 v n xs) (hg : w.grownBy w' v.ownBlock) (hs : B ≤ w.heap.size) (hlt : ∀ k, v.ownBlock = some k → B ≤ k) : Bt B a w' :=
  ⟨h.b.grown hg hs hlt, h.k.trans (fun k cs t m h0 h1 _ => by
    rw [hg.block k (Array.getElem?_eq_some_iff.1 h0).1 (fun e => by
      rcases hown.2 with ⟨hv, _⟩ | ⟨g, cap, cur, hv, _, hgk, _⟩
      · rw [hv] at e
        cases e
      · rw [hv] at e
        have e' : k = g := by simpa [Value.ownBlock] using e
        subst e'
        rw [hgk] at h0
        simp only [Option.some.injEq, Obj.cells.injEq] at h0
        exact h1 h0.2.1.symm)]
    exact h0)⟩
theorem check_ok (B b : Nat) (bs : List Value) (w : World) (h : Lib.IsBuilder tO 5 B b bs w) :
    Calls Tryz.prog 85 #[.pointer (some ⟨b, 0, none⟩)] w fun e w' => (Lib.BuilderAt tO 5 B b (.pointer (some ⟨b, 0, none⟩)) bs w' ∧ Bt B w w') ∧ ∃ u, e = .returned u := by
  obtain ⟨j, hj, hj2⟩ := bldI
  have hneq : ∀ w', (binOp .neq 67 (.pointer (some ⟨b, 0, none⟩)) (.pointer (some ⟨b, 0, none⟩))).run Tryz.prog w' = .ok (.bool false) w' := fun w' => Lib.run_neq_ptr_same w' ⟨b, 0, none⟩ Tryz.underlying67 hj
  have hcf : ∀ w', (callFunc 102 #[.pointer (some ⟨b, 0, none⟩)]).run Tryz.prog w' = .ok (.value (.pointer (some ⟨b, 0, none⟩))) w' := fun w' => by
    rw [run_callFunc_extern Tryz.func102 (by kernel_rfl) (by kernel_rfl) (by kernel_rfl) (e := Extern.AbiNoEscape.same) (by kernel_rfl), Lib.run_noEscape]
    rfl
  go_enter Tryz.func85, Tryz.ntmps85
  rcases h with h | h
  · have hsh := h.shape
    have hto : (convert 67 146 (.pointer (some ⟨b, 0, none⟩))).run Tryz.prog w = .ok (.pointer (some ⟨b, 0, none⟩)) w := Lib.run_to_unsafe w ⟨b, 0, none⟩ Tryz.underlying67 Tryz.underlying146 hj (by rw [hj2]; decide) hsh (Nat.zero_lt_succ 1)
    have hfrom : (convert 146 67 (.pointer (some ⟨b, 0, none⟩))).run Tryz.prog w = .ok (.pointer (some ⟨b, 0, none⟩)) w := Lib.run_from_unsafe w ⟨b, 0, none⟩ Tryz.underlying146 Tryz.underlying67 hj hsh (by kernel_rfl)
    have c0 := h.cell0
    have f0 := h.frozen0
    have HH := Lib.hid (And.intro (h.used (.pointer (some ⟨b, 0, none⟩))) h.1)
    obtain ⟨v0, hv0⟩ : ∃ v0, w.heap[b]? = some (.cells #[.pointer none, v0] tO (0, 0)) := by obtain ⟨_, v, hb, _⟩ := h; exact ⟨v, hb⟩
    have HV := Lib.hid hv0
    clear hv0
    clear hj hj2 hsh h
    go_wp2_with fail
    go_end0
    exact ⟨⟨HH.out.1, (Bt.refl B w).setCell HH.out.2 HV.out _⟩, _, rfl⟩
  · have c0 := h.cell0
    have HH := Lib.hid h
    clear hj hj2 h
    go_wp2_with fail
    go_end0
    exact ⟨⟨HH.out, Bt.refl _ _⟩, _, rfl⟩
set_option maxHeartbeats 2000000 in
theorem wbyte_ok (B b : Nat) (l : List UInt8) (x : UInt8) (w : World) (h : Lib.IsBuilder tO 5 B b (byv l) w) (hl : l.length < 100000000) (hBw : B ≤ w.heap.size) :
    Calls Tryz.prog 60 #[.pointer (some ⟨b, 0, none⟩), .int .u8 (x.toNat : Nat)] w fun e w' => (IsO B b (l ++ [x]) w' ∧ Bt B w w') ∧ e = .returned .nilIface := by
  obtain ⟨j0, hj, hj0, hj1, hj2⟩ := u8I
  have J := Lib.hid hj
  have J0 := Lib.hid hj0
  have J1 := Lib.hid hj1
  have J2 := Lib.hid hj2
  clear hj hj0 hj1 hj2
  have HCK := Lib.hid (check_ok B b (byv l) w h)
  clear h
  go_enter Tryz.func60, Tryz.ntmps60
  go_upto_region 2 with (go_at_call 85; refine HCK.out.mono ?_; rintro e w1 ⟨⟨h1, hb1⟩, u1, rfl⟩)
  obtain ⟨hB, v, hbk, hown, hne⟩ := h1
  have hln : (byv l).length = l.length := byv_len l
  rw [hln] at hown
  have c1 : w1.cell? ⟨b, 1, none⟩ = some v := by rw [Lib.cell_of_heap hbk]; rfl
  have hs1 := hb1.size
  have HO := Lib.hid (hown.alloc (.cells #[.int .u8 (x.toNat : Nat)] 5))
  have HBK := Lib.hid hbk
  have HNE := Lib.hid hne
  have HB1 := Lib.hid hb1
  have HLT := Lib.hid hown.lt
  clear hbk hne hb1 hown hln HCK
  go_wp2_with (at_builtin; refine wpList_append_own _ rfl (.tmp 11) (.tmp 13) 68 rfl B 5 j0 (.int .u8 0) 1 1 Tryz.underlying68 J.out J0.out J1.out J2.out rfl (by decide) v l.length _ rfl HO.out ⟨w1.heap.size, 0, none⟩ 1 1 [.int .u8 (x.toNat : Nat)] rfl rfl ?c1 ?c2 ?c3 ?c4 ?c5 ?c6)
  case c1 =>
    intro j u hj
    match j, hj with
    | 0, hj => simp at hj; subst hj; simp [Addr.add]
  case c2 => intro u hu; simp at hu; subst hu; rfl
  case c3 => unfold maxLen; omega
  case c4 => omega
  case c5 => simp; omega
  case c6 =>
    intro v' w2 hown' hgrow _
    have hlt : b < w1.heap.size := by
      rcases Nat.lt_or_ge b w1.heap.size with h' | h'
      · exact h'
      · have e := HBK.out
        simp [Array.getElem?_eq_none h'] at e
    have hb2 : w2.heap[b]? = some (.cells #[.pointer (some ⟨b, 0, none⟩), v] tO (0, 0)) := by
      rw [hgrow.block b (by simp; omega) (fun e => HNE.out e.symm), Lib.alloc_old w1 _ b hlt]
      exact HBK.out
    have d1 : w2.cell? ⟨b, 1, none⟩ = some v := by rw [Lib.cell_of_heap hb2]; rfl
    have f1 : w2.frozen? ⟨b, 1, none⟩ = false := Lib.frozen_of_heap hb2 1
    obtain ⟨g, cap, rfl⟩ : ∃ g cap, v' = .slice (some ⟨g, 0, none⟩) (l.length + 1) cap := by
      rcases hown'.2 with ⟨_, h0⟩ | ⟨g, cap, cur, hv, _⟩
      · omega
      · exact ⟨g, cap, hv⟩
    have HBL := Lib.hid (((HB1.out.alloc (by omega) (.cells #[.int .u8 (x.toNat : Nat)] 5)).grown HO.out hgrow (by simp; omega) (fun k hk => (HLT.out k hk).1)).setCell (i := 1) hB hb2 (.slice (some ⟨g, 0, none⟩) (l.length + 1) cap))
    have HPUT := Lib.hid (Lib.BuilderAt.put (T := tO) (e := 5) hB hb2 (bs' := byv l ++ [.int .u8 (x.toNat : Nat)]) (v' := .slice (some ⟨g, 0, none⟩) (l.length + 1) cap) (by rw [show (byv l ++ [Value.int .u8 (x.toNat : Nat)]).length = l.length + 1 by simp [byv]]; exact hown') (by decide))
    clear hown' hgrow hb2
    go_wp2_with fail
    go_ret
    refine ⟨⟨.inr ?_, HBL.out⟩, rfl⟩
    rw [byv_app]
    exact HPUT.out
set_option maxHeartbeats 2000000 in
theorem wstring_ok (B b : Nat) (l s : List UInt8) (w : World) (h : IsO B b l w) (hl : l.length + s.length < 100000000) (hBw : B ≤ w.heap.size) :
    Calls Tryz.prog 61 #[.pointer (some ⟨b, 0, none⟩), .string (by8 s)] w fun e w' => (IsO B b (l ++ s) w' ∧ Bt B w w') ∧ ∃ u, e = .returned u := by
  obtain ⟨j0, hj, hj0, hj1, hj2⟩ := u8I
  have J := Lib.hid hj
  have J0 := Lib.hid hj0
  have J1 := Lib.hid hj1
  have J2 := Lib.hid hj2
  clear hj hj0 hj1 hj2
  have HCK := Lib.hid (check_ok B b (byv l) w h)
  have hsz : (by8 s).size = s.length := by8_size s
  clear h
  go_enter Tryz.func61, Tryz.ntmps61
  go_upto_region 2 with (go_at_call 85; refine HCK.out.mono ?_; rintro e w1 ⟨⟨h1, hb1⟩, u1, rfl⟩)
  obtain ⟨hB, v, hbk, hown, hne⟩ := h1
  have hln : (byv l).length = l.length := byv_len l
  rw [hln] at hown
  have c1 : w1.cell? ⟨b, 1, none⟩ = some v := by rw [Lib.cell_of_heap hbk]; rfl
  have hs1 := hb1.size
  have HO := Lib.hid hown
  have HBK := Lib.hid hbk
  have HNE := Lib.hid hne
  have HB1 := Lib.hid hb1
  have HLT := Lib.hid hown.lt
  clear hbk hne hb1 hown hln HCK
  go_wp2_with (at_builtin; refine Lib.wpList_append_own_string _ rfl (.tmp 12) (.tmp 13) 68 9 rfl B 5 j0 Tryz.underlying68 Tryz.underlying9 J.out J0.out J1.out J2.out v l.length _ rfl HO.out (by8 s) rfl ?c3 ?c4 ?c5 ?c6)
  case c3 => unfold maxLen; omega
  case c4 => omega
  case c5 => omega
  case c6 =>
    intro v' w2 hown' hgrow _
    have hb2 : w2.heap[b]? = some (.cells #[.pointer (some ⟨b, 0, none⟩), v] tO (0, 0)) := by
      rw [hgrow.block b (by
        rcases Nat.lt_or_ge b w1.heap.size with h' | h'
        · exact h'
        · have e := HBK.out
          simp [Array.getElem?_eq_none h'] at e) (fun e => HNE.out e.symm)]
      exact HBK.out
    have d1 : w2.cell? ⟨b, 1, none⟩ = some v := by rw [Lib.cell_of_heap hb2]; rfl
    have f1 : w2.frozen? ⟨b, 1, none⟩ = false := Lib.frozen_of_heap hb2 1
    obtain ⟨a, n, c, rfl⟩ : ∃ a n c, v' = .slice a n c := by
      rcases hown'.2 with ⟨hv, _⟩ | ⟨g, cap, cur, hv, _⟩
      · exact ⟨_, _, _, hv⟩
      · exact ⟨_, _, _, hv⟩
    have HBL := Lib.hid ((HB1.out.grown HO.out hgrow (by omega) (fun k hk => (HLT.out k hk).1)).setCell (i := 1) hB hb2 (.slice a n c))
    have HPUT := Lib.hid (Lib.BuilderAt.put (T := tO) (e := 5) hB hb2 (bs' := byv l ++ byv s) (v' := .slice a n c) (by rw [show (byv l ++ byv s).length = l.length + (by8 s).size by rw [hsz]; simp [byv]]; exact hown') (by decide))
    clear hown' hgrow hb2
    go_wp2_with fail
    go_ret2
    refine ⟨⟨.inr ?_, HBL.out⟩, _, rfl⟩
    rw [byv_app]
    exact HPUT.out
set_option maxHeartbeats 4000000 in
theorem put_ok (B b : Nat) (l : List UInt8) (K N : Nat) (w : World) (h : IsO B b l w) (hl : l.length < 1000000) (hK : K ≤ 8) (hBw : B ≤ w.heap.size) :
    Calls Tryz.prog 59 #[.pointer (some ⟨b, 0, none⟩), .int .u64 (N : Nat), .int .i64 (K : Nat)] w fun e w' => (IsO B b (l ++ beK K N) w' ∧ Bt B w w') ∧ e = .returned (.pointer (some ⟨b, 0, none⟩)) := by
  go_enter Tryz.func59, Tryz.ntmps59
  go_upto_region 2 with fail
  have H0 : Hid (IsO B b (l ++ (beK K N).take 0) w ∧ Bt B w w) := Lib.hid ⟨by rw [List.take_zero, List.append_nil]; exact h, Bt.refl _ _⟩
  clear h
  go_loopw [7] (fun v wx => ∃ i : Nat, v = .int .i64 ((K : Int) - 1 - i) ∧ i ≤ K ∧ Hid (IsO B b (l ++ (beK K N).take i) wx ∧ Bt B w wx)) (fun v _ => (intOf v + 1).toNat)
  case atStart => exact ⟨0, by go_num, by omega, H0⟩
  case round =>
    obtain ⟨i, rfl, hi, hr⟩ := hrel
    clear H0
    by_cases hgo : i < K
    · go_upto_region 4 with fail
      have hWB : Hid (∀ x, lo8 ((N / 256 ^ (K - 1 - i) : Nat) : Int) = x → Calls Tryz.prog 60 #[.pointer (some ⟨b, 0, none⟩), .int .u8 (x.toNat : Nat)] wr.drew fun e w' => e = .returned .nilIface ∧ IsO B b (l ++ (beK K N).take (i + 1)) w' ∧ Bt B w w') := fun x hx => by
        refine (wbyte_ok B b (l ++ (beK K N).take i) x wr.drew hr.out.1 ?_ ?_).mono ?_
        · rw [List.length_append, List.length_take, beK_len]; omega
        · exact Nat.le_trans hBw (hr.out.2.drew).size
        · rintro e w3 ⟨⟨h1, h2⟩, rfl⟩
          rw [beK_next K N i hgo, ← List.append_assoc, hx]
          exact ⟨rfl, h1, hr.out.2.drew.trans h2⟩
      obtain ⟨q, hq⟩ : ∃ q, q = K - 1 - i := ⟨_, rfl⟩
      have hqi : ((K : Int) - 1 - i) = (q : Int) := by omega
      have hq8 : q ≤ 7 := by omega
      rw [← hq] at hWB
      have HQ := Lib.hid (And.intro hq hqi)
      rw [hqi]
      have HM : Hid (IntKind.i64.wrap (8 * (q : Int)) = 8 * (q : Int)) := Lib.hid (by rw [IntKind.wrap_i64]; omega)
      have HP : Hid ((N : Int) / 2 ^ (8 * (q : Int)).toNat = (N : Int) / 256 ^ q) := Lib.hid (by
        rw [show (8 * (q : Int)).toNat = 8 * q by omega, Int.pow_mul]
        rfl)
      have HL := Lib.hid (lo8_val ((N / 256 ^ q : Nat) : Int))
      have hkq : q + 1 + i = K := by omega
      clear hq hqi
      refine region_two 8 (D2 wr.drew (fun w' => IsO B b (l ++ (beK K N).take (i + 1)) w' ∧ Bt B w w')) (by kernel_rfl) (by kernel_rfl) (by decide) rfl ?_
      (refine two_step (fun K hK => ?_); refine two_quietK (.pointer (some ⟨b, 0, none⟩)) (by decide) (by first | rfl | simp [Region.wanted, yielded]) (fun d w' hw' => by go_simp) ?_; go_simp; (with_reducible apply hK); clear hK K)
      (refine two_step (fun K hK => ?_); refine two_quietK (.pointer (some ⟨b, 0, none⟩)) (by decide) (by first | rfl | simp [Region.wanted, yielded]) (fun d w' hw' => by go_simp) ?_; go_simp; (with_reducible apply hK); clear hK K)
      (refine two_step (fun K hK => ?_); refine two_quietK (.pointer (some ⟨b, 0, none⟩)) (by decide) (by first | rfl | simp [Region.wanted, yielded]) (fun d w' hw' => by go_simp) ?_; go_simp; (with_reducible apply hK); clear hK K)
      (refine two_step (fun K hK => ?_); refine two_quietK (.int .u64 (N : Nat)) (by decide) (by first | rfl | simp [Region.wanted, yielded]) (fun d w' hw' => by go_simp) ?_; go_simp; (with_reducible apply hK); clear hK K)
      (refine two_step (fun K hK => ?_); refine two_quietK (.int .i64 (q : Int)) (by decide) (by first | rfl | simp [Region.wanted, yielded]) (fun d w' hw' => by go_simp) ?_; go_simp; (with_reducible apply hK); clear hK K)
      (refine two_step (fun K hK => ?_); refine two_quietK (.int .i64 (8 * (q : Int))) (by decide) (by first | rfl | simp [Region.wanted, yielded]) (fun d w' hw' => by go_simp; rw [HM.out]) ?_; go_simp; (with_reducible apply hK); clear hK K)
      (refine two_step (fun K hK => ?_); refine two_quietK (.int .u64 ((N / 256 ^ q : Nat) : Int)) (by decide) (by first | rfl | simp [Region.wanted, yielded]) (fun d w' hw' => by go_simp; try simp only [HP.out]) ?_; go_simp; (with_reducible apply hK); clear hK K)
      (refine two_step (fun K hK => ?_); refine two_quietK (.int .u8 ((lo8 ((N / 256 ^ q : Nat) : Int)).toNat : Nat)) (by decide) (by first | rfl | simp [Region.wanted, yielded]) (fun d w' hw' => by rw [← HL.out]; go_simp) ?_; go_simp; (with_reducible apply hK); clear hK K)
      (refine two_step (fun K hK => ?_); refine two_writeK (.nilIface) 60 #[.pointer (some ⟨b, 0, none⟩), .int .u8 ((lo8 ((N / 256 ^ q : Nat) : Int)).toNat : Nat)] (by first | rfl | simp [Region.wanted, yielded]) (fun w' => by go_simp) (fun w' hw' => by
            have e : w' = wr.drew := hw'
            subst e
            exact hWB.out _ rfl) ?_; go_simp; (with_reducible apply hK); clear hK K)
      refine wpTwo_nil ?_
      rintro w3 h3
      have H3 := Lib.hid h3
      clear h3 hr hWB
      go_wp2_with fail
      go_roundw
      case rel => exact ⟨i + 1, by go_num, by omega, H3⟩
      case measure => simp [intOf]; omega
    · obtain rfl : i = K := by omega
      have HT : Hid (List.take i (beK i N) = beK i N) := List.take_of_length_le (by rw [beK_len]; exact Nat.le_refl _)
      rw [HT.out] at hr
      go_wp2_with fail
      go_ret
      exact ⟨hr.out, rfl⟩
theorem put4_ok (B b : Nat) (l : List UInt8) (N : Nat) (w : World) (h : IsO B b l w) (hl : l.length < 1000000) (hBw : B ≤ w.heap.size) :
    Calls Tryz.prog 59 #[.pointer (some ⟨b, 0, none⟩), .int .u64 (N : Nat), .int .i64 4] w fun e w' => (IsO B b (l ++ be4 N) w' ∧ Bt B w w') ∧ e = .returned (.pointer (some ⟨b, 0, none⟩)) := by
  have h1 := put_ok B b l 4 N w h hl (by decide) hBw
  rw [be4_is] at h1
  exact h1
set_option maxHeartbeats 1000000 in
theorem u32_ok (B b : Nat) (l : List UInt8) (N : Nat) (w : World) (h : IsO B b l w) (hl : l.length < 1000000) (hN : N < 4294967296) (hBw : B ≤ w.heap.size) :
    Calls Tryz.prog 26 #[.pointer (some ⟨b, 0, none⟩), .int .u32 (N : Nat)] w fun e w' => (IsO B b (l ++ be4 N) w' ∧ Bt B w w') ∧ e = .returned (.pointer (some ⟨b, 0, none⟩)) := by
  have P := Lib.hid (put4_ok B b l N w h hl hBw)
  clear h
  generalize be4 N = R at *
  go_enter Tryz.func26, Tryz.ntmps26
  go_wp2_with (go_at_call 59; refine P.out.mono ?_; rintro e w2 ⟨hb, rfl⟩)
  go_ret
  exact ⟨hb, rfl⟩
set_option maxHeartbeats 1000000 in
theorem raw_ok (B b : Nat) (l s : List UInt8) (w : World) (h : IsO B b l w) (hl : l.length + s.length < 100000000) (hBw : B ≤ w.heap.size) :
    Calls Tryz.prog 28 #[.pointer (some ⟨b, 0, none⟩), .string (by8 s)] w fun e w' => (IsO B b (l ++ s) w' ∧ Bt B w w') ∧ e = .returned (.pointer (some ⟨b, 0, none⟩)) := by
  have P := Lib.hid (wstring_ok B b l s w h hl hBw)
  clear h
  go_enter Tryz.func28, Tryz.ntmps28
  go_wp2_with (go_at_call 61; refine P.out.mono ?_; rintro e w2 ⟨hb, u, rfl⟩)
  go_ret
  exact ⟨hb, rfl⟩
set_option maxHeartbeats 1000000 in
theorem otext_ok (B b : Nat) (l s : List UInt8) (w : World) (h : IsO B b l w) (hl : l.length < 900000) (hs : s.length < 900000) (hBw : B ≤ w.heap.size) :
    Calls Tryz.prog 38 #[.pointer (some ⟨b, 0, none⟩), .string (by8 s)] w fun e w' => (IsO B b (l ++ tx s) w' ∧ Bt B w w') ∧ e = .returned (.pointer (some ⟨b, 0, none⟩)) := by
  have P := Lib.hid (u32_ok B b l s.length w h (by omega) (by omega) hBw)
  have hsz := by8_size s
  have W : IntKind.u32.wrap ((s.length : Nat) : Int) = ((s.length : Nat) : Int) := by rw [IntKind.wrap_u32]; omega
  clear h
  go_enter Tryz.func38, Tryz.ntmps38
  go_wp2_with (first | (go_at_call 26; refine P.out.mono ?_; rintro e w2 ⟨⟨hb1, hb2⟩, rfl⟩; have P2 := Lib.hid (raw_ok B b (l ++ be4 s.length) s w2 hb1 (by rw [List.length_append, show (be4 s.length).length = 4 from rfl]; omega) (Nat.le_trans hBw hb2.size))) | (go_at_call 28; refine P2.out.mono ?_; rintro e w3 ⟨⟨hc1, hc2⟩, rfl⟩))
  go_ret
  refine ⟨⟨?_, hb2.trans hc2⟩, rfl⟩
  unfold tx
  rw [← List.append_assoc]
  exact hc1
set_option maxHeartbeats 1000000 in
theorem obyte_ok (B b : Nat) (l : List UInt8) (x : UInt8) (w : World) (h : IsO B b l w) (hl : l.length < 1000000) (hBw : B ≤ w.heap.size) :
    Calls Tryz.prog 27 #[.pointer (some ⟨b, 0, none⟩), .int .u8 (x.toNat : Nat)] w fun e w' => (IsO B b (l ++ [x]) w' ∧ Bt B w w') ∧ e = .returned (.pointer (some ⟨b, 0, none⟩)) := by
  have P := Lib.hid (wbyte_ok B b l x w h (by omega) hBw)
  clear h
  go_enter Tryz.func27, Tryz.ntmps27
  go_wp2_with (go_at_call 60; refine P.out.mono ?_; rintro e w2 ⟨hb, rfl⟩)
  go_ret
  exact ⟨hb, rfl⟩
set_option maxHeartbeats 1000000 in
theorem obool_ok (B b : Nat) (l : List UInt8) (x : Bool) (w : World) (h : IsO B b l w) (hl : l.length < 1000000) (hBw : B ≤ w.heap.size) :
    Calls Tryz.prog 36 #[.pointer (some ⟨b, 0, none⟩), .bool x] w fun e w' => (IsO B b (l ++ [if x then 1 else 0]) w' ∧ Bt B w w') ∧ e = .returned (.pointer (some ⟨b, 0, none⟩)) := by
  have P := Lib.hid (obyte_ok B b l (if x then 1 else 0) w h hl hBw)
  clear h
  cases x
  · go_enter Tryz.func36, Tryz.ntmps36
    go_wp2_with (go_at_call 27; refine P.out.mono ?_; rintro e w2 ⟨hb, rfl⟩)
    go_ret
    exact ⟨hb, rfl⟩
  · go_enter Tryz.func36, Tryz.ntmps36
    go_wp2_with (go_at_call 27; refine P.out.mono ?_; rintro e w2 ⟨hb, rfl⟩)
    go_ret
    exact ⟨hb, rfl⟩
theorem put8_ok (B b : Nat) (l : List UInt8) (N : Nat) (w : World) (h : IsO B b l w) (hl : l.length < 1000000) (hBw : B ≤ w.heap.size) :
    Calls Tryz.prog 59 #[.pointer (some ⟨b, 0, none⟩), .int .u64 (N : Nat), .int .i64 8] w fun e w' => (IsO B b (l ++ beK 8 N) w' ∧ Bt B w w') ∧ e = .returned (.pointer (some ⟨b, 0, none⟩)) :=
  put_ok B b l 8 N w h hl (by decide) hBw
set_option maxHeartbeats 1000000 in
theorem u64_ok (B b : Nat) (l : List UInt8) (N : Nat) (w : World) (h : IsO B b l w) (hl : l.length < 1000000) (hBw : B ≤ w.heap.size) :
    Calls Tryz.prog 69 #[.pointer (some ⟨b, 0, none⟩), .int .u64 (N : Nat)] w fun e w' => (IsO B b (l ++ beK 8 N) w' ∧ Bt B w w') ∧ e = .returned (.pointer (some ⟨b, 0, none⟩)) := by
  have P := Lib.hid (put8_ok B b l N w h hl hBw)
  clear h
  generalize beK 8 N = R at *
  go_enter Tryz.func69, Tryz.ntmps69
  go_wp2_with (go_at_call 59; refine P.out.mono ?_; rintro e w2 ⟨hb, rfl⟩)
  go_ret
  exact ⟨hb, rfl⟩
end Wa
end Go.Proofs.YtcbkbjpdfanjpaaGreatDoor
