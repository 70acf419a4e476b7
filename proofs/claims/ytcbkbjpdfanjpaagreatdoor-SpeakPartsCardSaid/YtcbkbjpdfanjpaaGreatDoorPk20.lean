/-
wire.Out: a strings.Builder that lies in a wire.Out: WriteByte, WriteString, String; put, U32, Raw, Text, Bytes.
The contract of the laws' Cut.
-/
import Derived.Lib.Builder
import Derived.Lib.UnsafeStr
import Derived.Lib.AppendStr
import Derived.Shelf.RegionOpenPlain
import Derived.Test.YtcbkbjpdfanjpaaGreatDoorRows
import Derived.Test.YtcbkbjpdfanjpaaGreatDoorPk06
import Derived.Test.YtcbkbjpdfanjpaaGreatDoorPk07
import Derived.Test.YtcbkbjpdfanjpaaGreatDoorPk19
import Derived.Test.YtcbkbjpdfanjpaaGreatDoorPk01
namespace Go.Proofs.YtcbkbjpdfanjpaaGreatDoor
open Go.RowKit
set_option maxRecDepth 100000
namespace Wob
abbrev tO : TypeId := 72
abbrev IsO (B b : Nat) (l : List UInt8) (w : World) : Prop := Lib.IsBuilder tO 5 B b (byv l) w
theorem u8I : ∃ i, Tryz.prog.info? 5 = some i ∧ i.zero = some (.int .u8 0) ∧ i.size = 1 ∧ i.bytes = 1 := by
  have h : (Tryz.prog.info? 5).map (fun i => (i.zero, i.size, i.bytes)) = some (some (.int .u8 0), 1, 1) := by kernel_rfl
  cases hi : Tryz.prog.info? 5 with
  | none => rw [hi] at h; cases h
  | some i =>
    rw [hi] at h
    simp only [Option.map_some, Option.some.injEq, Prod.mk.injEq] at h
    exact ⟨i, rfl, h.1, h.2.1, h.2.2⟩
theorem bldI : ∃ j, Tryz.prog.info? 70 = some j ∧ j.size = 2 := by
  have h : (Tryz.prog.info? 70).map (fun i => i.size) = some 2 := by kernel_rfl
  cases hi : Tryz.prog.info? 70 with
  | none => rw [hi] at h; cases h
  | some i =>
    rw [hi] at h
    simp only [Option.map_some, Option.some.injEq] at h
    exact ⟨i, rfl, h⟩
theorem check_ok (B b : Nat) (bs : List Value) (w : World) (h : Lib.IsBuilder tO 5 B b bs w) :
    Calls Tryz.prog 85 #[.pointer (some ⟨b, 0, none⟩)] w fun e w' => (Lib.BuilderAt tO 5 B b (.pointer (some ⟨b, 0, none⟩)) bs w' ∧ Below B w w') ∧ ∃ u, e = .returned u := by
  obtain ⟨j, hj, hj2⟩ := bldI
  have hneq : ∀ w', (binOp .neq 67 (.pointer (some ⟨b, 0, none⟩)) (.pointer (some ⟨b, 0, none⟩))).run Tryz.prog w' = .ok (.bool false) w' := fun w' => Lib.run_neq_ptr_same w' ⟨b, 0, none⟩ Tryz.underlying67 hj
  have hcf : ∀ w', (callFunc 102 #[.pointer (some ⟨b, 0, none⟩)]).run Tryz.prog w' = .ok (.value (.pointer (some ⟨b, 0, none⟩))) w' := fun w' => by
    rw [run_callFunc_extern Tryz.func102 (by kernel_rfl) (by kernel_rfl) (by kernel_rfl) (e := Extern.AbiNoEscape.same) (by kernel_rfl), Lib.run_noEscape]
    rfl
  go_enter Tryz.func85, Tryz.ntmps85
  rcases h with h | h
  · have hsh := h.shape
    have hto : (convert 67 146 (.pointer (some ⟨b, 0, none⟩))).run Tryz.prog w = .ok (.pointer (some ⟨b, 0, none⟩)) w := Lib.run_to_unsafe w ⟨b, 0, none⟩ Tryz.underlying67 Tryz.underlying146 hj (by rw [hj2]; decide) hsh (Nat.zero_lt_succ 1)
    have hfrom : (convert 146 67 (.pointer (some ⟨b, 0, none⟩))).run Tryz.prog w = .ok (.pointer (some ⟨b, 0, none⟩)) w := Lib.run_from_unsafe w ⟨b, 0, none⟩ Tryz.underlying146 Tryz.underlying67 hj hsh (by kernel_rfl)
    have c0 := h.cell0
    have f0 := h.frozen0
    have HH := Lib.hid (And.intro (h.used (.pointer (some ⟨b, 0, none⟩))) h.1)
    clear hj hj2 hsh h
    go_wp2_with fail
    go_end0
    exact ⟨⟨HH.out.1, (Below.refl B w).setCell (p := ⟨b, 0, none⟩) HH.out.2 _⟩, _, rfl⟩
  · have c0 := h.cell0
    have HH := Lib.hid h
    clear hj hj2 h
    go_wp2_with fail
    go_end0
    exact ⟨⟨HH.out, Below.refl _ _⟩, _, rfl⟩
set_option maxHeartbeats 2000000 in
theorem wbyte_ok (B b : Nat) (l : List UInt8) (x : UInt8) (w : World) (h : Lib.IsBuilder tO 5 B b (byv l) w) (hl : l.length < 100000000) (hBw : B ≤ w.heap.size) :
    Calls Tryz.prog 60 #[.pointer (some ⟨b, 0, none⟩), .int .u8 (x.toNat : Nat)] w fun e w' => (IsO B b (l ++ [x]) w' ∧ Below B w w') ∧ e = .returned .nilIface := by
  obtain ⟨j0, hj, hj0, hj1, hj2⟩ := u8I
  have J := Lib.hid hj
  have J0 := Lib.hid hj0
  have J1 := Lib.hid hj1
  have J2 := Lib.hid hj2
  clear hj hj0 hj1 hj2
  have HCK := Lib.hid (check_ok B b (byv l) w h)
  clear h
  go_enter Tryz.func60, Tryz.ntmps60
  go_upto_region 2 with (go_at_call 85; refine HCK.out.mono ?_; rintro e w1 ⟨⟨h1, hb1⟩, u1, rfl⟩)
  obtain ⟨hB, v, hbk, hown, hne⟩ := h1
  have hln : (byv l).length = l.length := byv_len l
  rw [hln] at hown
  have c1 : w1.cell? ⟨b, 1, none⟩ = some v := by rw [Lib.cell_of_heap hbk]; rfl
  have hs1 := hb1.size
  have HO := Lib.hid (hown.alloc (.cells #[.int .u8 (x.toNat : Nat)] 5))
  have HBK := Lib.hid hbk
  have HNE := Lib.hid hne
  have HB1 := Lib.hid hb1
  have HLT := Lib.hid hown.lt
  clear hbk hne hb1 hown hln HCK
  go_wp2_with (at_builtin; refine wpList_append_own _ rfl (.tmp 11) (.tmp 13) 68 rfl B 5 j0 (.int .u8 0) 1 1 Tryz.underlying68 J.out J0.out J1.out J2.out rfl (by decide) v l.length _ rfl HO.out ⟨w1.heap.size, 0, none⟩ 1 1 [.int .u8 (x.toNat : Nat)] rfl rfl ?c1 ?c2 ?c3 ?c4 ?c5 ?c6)
  case c1 =>
    intro j u hj
    match j, hj with
    | 0, hj => simp at hj; subst hj; simp [Addr.add]
  case c2 => intro u hu; simp at hu; subst hu; rfl
  case c3 => unfold maxLen; omega
  case c4 => omega
  case c5 => simp; omega
  case c6 =>
    intro v' w2 hown' hgrow _
    have hlt : b < w1.heap.size := by
      rcases Nat.lt_or_ge b w1.heap.size with h' | h'
      · exact h'
      · have e := HBK.out
        simp [Array.getElem?_eq_none h'] at e
    have hb2 : w2.heap[b]? = some (.cells #[.pointer (some ⟨b, 0, none⟩), v] tO (0, 0)) := by
      rw [hgrow.block b (by simp; omega) (fun e => HNE.out e.symm), Lib.alloc_old w1 _ b hlt]
      exact HBK.out
    have d1 : w2.cell? ⟨b, 1, none⟩ = some v := by rw [Lib.cell_of_heap hb2]; rfl
    have f1 : w2.frozen? ⟨b, 1, none⟩ = false := Lib.frozen_of_heap hb2 1
    obtain ⟨g, cap, rfl⟩ : ∃ g cap, v' = .slice (some ⟨g, 0, none⟩) (l.length + 1) cap := by
      rcases hown'.2 with ⟨_, h0⟩ | ⟨g, cap, cur, hv, _⟩
      · omega
      · exact ⟨g, cap, hv⟩
    have HBL := Lib.hid (((HB1.out.alloc (by omega) (.cells #[.int .u8 (x.toNat : Nat)] 5)).grown hgrow (by simp; omega) (fun k hk => (HLT.out k hk).1)).setCell (p := ⟨b, 1, none⟩) hB (.slice (some ⟨g, 0, none⟩) (l.length + 1) cap))
    have HPUT := Lib.hid (Lib.BuilderAt.put (T := tO) (e := 5) hB hb2 (bs' := byv l ++ [.int .u8 (x.toNat : Nat)]) (v' := .slice (some ⟨g, 0, none⟩) (l.length + 1) cap) (by rw [show (byv l ++ [Value.int .u8 (x.toNat : Nat)]).length = l.length + 1 by simp [byv]]; exact hown') (by decide))
    clear hown' hgrow hb2
    go_wp2_with fail
    go_ret
    refine ⟨⟨.inr ?_, HBL.out⟩, rfl⟩
    rw [byv_app]
    exact HPUT.out
set_option maxHeartbeats 2000000 in
theorem wstr_ok (B b : Nat) (l : List UInt8) (w : World) (h : Lib.IsBuilder tO 5 B b (byv l) w) (h0 : l ≠ []) (_hBw : B ≤ w.heap.size) :
    Calls Tryz.prog 66 #[.pointer (some ⟨b, 0, none⟩)] w fun e w' => e = .returned (.string ⟨l.toArray⟩) ∧ Below B w w' := by
  obtain ⟨p, hB, v, hbk, hown, hne⟩ : ∃ p, Lib.BuilderAt tO 5 B b p (byv l) w := by
    rcases h with h | h
    · exact ⟨_, h⟩
    · exact ⟨_, h⟩
  have hl0 : l.length ≠ 0 := by simpa using h0
  rw [byv_len] at hown
  obtain ⟨g, cap, cur, rfl, hbg, hg, hnc, hcm, hcs, htake⟩ : ∃ g cap cur, v = .slice (some ⟨g, 0, none⟩) l.length cap ∧ B ≤ g ∧ w.heap[g]? = some (.cells cur 5 (0, 0)) ∧ l.length ≤ cap ∧ cap ≤ maxLen ∧ cur.size = cap * 1 ∧ cur.toList.take (l.length * 1) = byv l := by
    rcases hown.2 with ⟨_, hz⟩ | ⟨g, cap, cur, hv, r⟩
    · exact absurd hz hl0
    · exact ⟨g, cap, cur, hv, r⟩
  have c1 : w.drew.cell? ⟨b, 1, none⟩ = some (.slice (some ⟨g, 0, none⟩) l.length cap) := by
    have : w.drew.heap[b]? = some (.cells #[p, .slice (some ⟨g, 0, none⟩) l.length cap] tO (0, 0)) := hbk
    rw [Lib.cell_of_heap this]; rfl
  have hSD : (Builtin.unsafeSliceData_ #[68] 133 #[.slice (some ⟨g, 0, none⟩) l.length cap]).run Tryz.prog w.drew = .ok (.pointer (some ⟨g, 0, none⟩)) w.drew :=
    Lib.run_unsafeSliceData_row _ _ _ _ _ _ (by omega)
  have hUS : (Builtin.unsafeString_ #[133, 3] 9 #[.pointer (some ⟨g, 0, none⟩), .int .i64 l.length]).run Tryz.prog w.drew = .ok (.string ⟨l.toArray⟩) (w.drew.freeze ⟨g, 0, none⟩ l.length) := by
    refine Lib.run_unsafeString_row w.drew 133 3 9 5 Tryz.underlying133 (by kernel_rfl) g cur.size (by have hg' : w.drew.heap[g]? = some (.cells cur 5 (0, 0)) := hg; simp [World.shape?, hg']) l h0 (by omega) (by unfold maxLen at hcm; omega) ?_
    intro j x hx
    have := hown.cells (g := g) rfl j (.int .u8 x.toNat) (by simp [byv, hx])
    exact this
  have mixed : Tryz.prog.follows .mixedOrders = true := by kernel_rfl
  go_enter Tryz.func66, Tryz.ntmps66
  go_wp2
  go_region_o
  all_goals (go_wp2; go_ret; exact ⟨rfl, Lib.below_freeze (Below.drew (Below.refl B w)) (p := ⟨g, 0, none⟩) hbg _⟩)
set_option maxHeartbeats 2000000 in
theorem wstring_ok (B b : Nat) (l s : List UInt8) (w : World) (h : IsO B b l w) (hl : l.length + s.length < 100000000) (hBw : B ≤ w.heap.size) :
    Calls Tryz.prog 61 #[.pointer (some ⟨b, 0, none⟩), .string (by8 s)] w fun e w' => (IsO B b (l ++ s) w' ∧ Below B w w') ∧ ∃ u, e = .returned u := by
  obtain ⟨j0, hj, hj0, hj1, hj2⟩ := u8I
  have J := Lib.hid hj
  have J0 := Lib.hid hj0
  have J1 := Lib.hid hj1
  have J2 := Lib.hid hj2
  clear hj hj0 hj1 hj2
  have HCK := Lib.hid (check_ok B b (byv l) w h)
  have hsz : (by8 s).size = s.length := by8_size s
  clear h
  go_enter Tryz.func61, Tryz.ntmps61
  go_upto_region 2 with (go_at_call 85; refine HCK.out.mono ?_; rintro e w1 ⟨⟨h1, hb1⟩, u1, rfl⟩)
  obtain ⟨hB, v, hbk, hown, hne⟩ := h1
  have hln : (byv l).length = l.length := byv_len l
  rw [hln] at hown
  have c1 : w1.cell? ⟨b, 1, none⟩ = some v := by rw [Lib.cell_of_heap hbk]; rfl
  have hs1 := hb1.size
  have HO := Lib.hid hown
  have HBK := Lib.hid hbk
  have HNE := Lib.hid hne
  have HB1 := Lib.hid hb1
  have HLT := Lib.hid hown.lt
  clear hbk hne hb1 hown hln HCK
  go_wp2_with (at_builtin; refine Lib.wpList_append_own_string _ rfl (.tmp 12) (.tmp 13) 68 9 rfl B 5 j0 Tryz.underlying68 Tryz.underlying9 J.out J0.out J1.out J2.out v l.length _ rfl HO.out (by8 s) rfl ?c3 ?c4 ?c5 ?c6)
  case c3 => unfold maxLen; omega
  case c4 => omega
  case c5 => omega
  case c6 =>
    intro v' w2 hown' hgrow _
    have hb2 : w2.heap[b]? = some (.cells #[.pointer (some ⟨b, 0, none⟩), v] tO (0, 0)) := by
      rw [hgrow.block b (by
        rcases Nat.lt_or_ge b w1.heap.size with h' | h'
        · exact h'
        · have e := HBK.out
          simp [Array.getElem?_eq_none h'] at e) (fun e => HNE.out e.symm)]
      exact HBK.out
    have d1 : w2.cell? ⟨b, 1, none⟩ = some v := by rw [Lib.cell_of_heap hb2]; rfl
    have f1 : w2.frozen? ⟨b, 1, none⟩ = false := Lib.frozen_of_heap hb2 1
    obtain ⟨a, n, c, rfl⟩ : ∃ a n c, v' = .slice a n c := by
      rcases hown'.2 with ⟨hv, _⟩ | ⟨g, cap, cur, hv, _⟩
      · exact ⟨_, _, _, hv⟩
      · exact ⟨_, _, _, hv⟩
    have HBL := Lib.hid ((HB1.out.grown hgrow (by omega) (fun k hk => (HLT.out k hk).1)).setCell (p := ⟨b, 1, none⟩) hB (.slice a n c))
    have HPUT := Lib.hid (Lib.BuilderAt.put (T := tO) (e := 5) hB hb2 (bs' := byv l ++ byv s) (v' := .slice a n c) (by rw [show (byv l ++ byv s).length = l.length + (by8 s).size by rw [hsz]; simp [byv]]; exact hown') (by decide))
    clear hown' hgrow hb2
    go_wp2_with fail
    go_ret2
    refine ⟨⟨.inr ?_, HBL.out⟩, _, rfl⟩
    rw [byv_app]
    exact HPUT.out
/-- a number's bytes, the highest first -/
def beK (K n : Nat) : List UInt8 := (List.range K).map fun i => UInt8.ofNat (n / 256 ^ (K - 1 - i))
theorem beK_len (K n : Nat) : (beK K n).length = K := by simp [beK]
theorem beK_next (K n i : Nat) (h : i < K) : (beK K n).take (i + 1) = (beK K n).take i ++ [lo8 ((n / 256 ^ (K - 1 - i) : Nat) : Int)] := by
  have e : ∀ m : Nat, lo8 (m : Int) = UInt8.ofNat m := fun m => by
    unfold lo8
    apply UInt8.toNat_inj.1
    rw [UInt8.toNat_ofNat', UInt8.toNat_ofNat']
    omega
  rw [e, List.take_add_one]
  congr 1
  unfold beK
  rw [List.getElem?_map, List.getElem?_range h]
  rfl
def be4 (n : Nat) : List UInt8 := [UInt8.ofNat (n / 16777216), UInt8.ofNat (n / 65536), UInt8.ofNat (n / 256), UInt8.ofNat n]
theorem be4_is (n : Nat) : beK 4 n = be4 n := by
  show [UInt8.ofNat (n / 256 ^ 3), UInt8.ofNat (n / 256 ^ 2), UInt8.ofNat (n / 256 ^ 1), UInt8.ofNat (n / 256 ^ 0)] = _
  rw [Nat.pow_zero, Nat.div_one]
  rfl
set_option maxHeartbeats 4000000 in
theorem put_ok (B b : Nat) (l : List UInt8) (K N : Nat) (w : World) (h : IsO B b l w) (hl : l.length < 1000000) (hK : K ≤ 8) (hBw : B ≤ w.heap.size) :
    Calls Tryz.prog 59 #[.pointer (some ⟨b, 0, none⟩), .int .u64 (N : Nat), .int .i64 (K : Nat)] w fun e w' => (IsO B b (l ++ beK K N) w' ∧ Below B w w') ∧ e = .returned (.pointer (some ⟨b, 0, none⟩)) := by
  go_enter Tryz.func59, Tryz.ntmps59
  go_upto_region 2 with fail
  have H0 : Hid (IsO B b (l ++ (beK K N).take 0) w ∧ Below B w w) := Lib.hid ⟨by rw [List.take_zero, List.append_nil]; exact h, Below.refl _ _⟩
  clear h
  go_loopw [7] (fun v wx => ∃ i : Nat, v = .int .i64 ((K : Int) - 1 - i) ∧ i ≤ K ∧ Hid (IsO B b (l ++ (beK K N).take i) wx ∧ Below B w wx)) (fun v _ => (intOf v + 1).toNat)
  case atStart => exact ⟨0, by go_num, by omega, H0⟩
  case round =>
    obtain ⟨i, rfl, hi, hr⟩ := hrel
    clear H0
    by_cases hgo : i < K
    · go_upto_region 4 with fail
      have hWB : Hid (∀ x, lo8 ((N / 256 ^ (K - 1 - i) : Nat) : Int) = x → Calls Tryz.prog 60 #[.pointer (some ⟨b, 0, none⟩), .int .u8 (x.toNat : Nat)] wr.drew fun e w' => e = .returned .nilIface ∧ IsO B b (l ++ (beK K N).take (i + 1)) w' ∧ Below B w w') := fun x hx => by
        refine (wbyte_ok B b (l ++ (beK K N).take i) x wr.drew hr.out.1 ?_ ?_).mono ?_
        · rw [List.length_append, List.length_take, beK_len]; omega
        · exact Nat.le_trans hBw (hr.out.2.drew).size
        · rintro e w3 ⟨⟨h1, h2⟩, rfl⟩
          rw [beK_next K N i hgo, ← List.append_assoc, hx]
          exact ⟨rfl, h1, hr.out.2.drew.trans h2⟩
      obtain ⟨q, hq⟩ : ∃ q, q = K - 1 - i := ⟨_, rfl⟩
      have hqi : ((K : Int) - 1 - i) = (q : Int) := by omega
      have hq8 : q ≤ 7 := by omega
      rw [← hq] at hWB
      have HQ := Lib.hid (And.intro hq hqi)
      rw [hqi]
      have HM : Hid (IntKind.i64.wrap (8 * (q : Int)) = 8 * (q : Int)) := Lib.hid (by rw [IntKind.wrap_i64]; omega)
      have HP : Hid ((N : Int) / 2 ^ (8 * (q : Int)).toNat = (N : Int) / 256 ^ q) := Lib.hid (by
        rw [show (8 * (q : Int)).toNat = 8 * q by omega, Int.pow_mul]
        rfl)
      have HL := Lib.hid (lo8_val ((N / 256 ^ q : Nat) : Int))
      have hkq : q + 1 + i = K := by omega
      clear hq hqi
      refine region_two 8 (D2 wr.drew (fun w' => IsO B b (l ++ (beK K N).take (i + 1)) w' ∧ Below B w w')) (by kernel_rfl) (by kernel_rfl) (by decide) rfl ?_
      (refine two_step (fun K hK => ?_); refine two_quietK (.pointer (some ⟨b, 0, none⟩)) (by decide) (by first | rfl | simp [Region.wanted, yielded]) (fun d w' hw' => by go_simp) ?_; go_simp; (with_reducible apply hK); clear hK K)
      (refine two_step (fun K hK => ?_); refine two_quietK (.pointer (some ⟨b, 0, none⟩)) (by decide) (by first | rfl | simp [Region.wanted, yielded]) (fun d w' hw' => by go_simp) ?_; go_simp; (with_reducible apply hK); clear hK K)
      (refine two_step (fun K hK => ?_); refine two_quietK (.pointer (some ⟨b, 0, none⟩)) (by decide) (by first | rfl | simp [Region.wanted, yielded]) (fun d w' hw' => by go_simp) ?_; go_simp; (with_reducible apply hK); clear hK K)
      (refine two_step (fun K hK => ?_); refine two_quietK (.int .u64 (N : Nat)) (by decide) (by first | rfl | simp [Region.wanted, yielded]) (fun d w' hw' => by go_simp) ?_; go_simp; (with_reducible apply hK); clear hK K)
      (refine two_step (fun K hK => ?_); refine two_quietK (.int .i64 (q : Int)) (by decide) (by first | rfl | simp [Region.wanted, yielded]) (fun d w' hw' => by go_simp) ?_; go_simp; (with_reducible apply hK); clear hK K)
      (refine two_step (fun K hK => ?_); refine two_quietK (.int .i64 (8 * (q : Int))) (by decide) (by first | rfl | simp [Region.wanted, yielded]) (fun d w' hw' => by go_simp; rw [HM.out]) ?_; go_simp; (with_reducible apply hK); clear hK K)
      (refine two_step (fun K hK => ?_); refine two_quietK (.int .u64 ((N / 256 ^ q : Nat) : Int)) (by decide) (by first | rfl | simp [Region.wanted, yielded]) (fun d w' hw' => by go_simp; try simp only [HP.out]) ?_; go_simp; (with_reducible apply hK); clear hK K)
      (refine two_step (fun K hK => ?_); refine two_quietK (.int .u8 ((lo8 ((N / 256 ^ q : Nat) : Int)).toNat : Nat)) (by decide) (by first | rfl | simp [Region.wanted, yielded]) (fun d w' hw' => by rw [← HL.out]; go_simp) ?_; go_simp; (with_reducible apply hK); clear hK K)
      (refine two_step (fun K hK => ?_); refine two_writeK (.nilIface) 60 #[.pointer (some ⟨b, 0, none⟩), .int .u8 ((lo8 ((N / 256 ^ q : Nat) : Int)).toNat : Nat)] (by first | rfl | simp [Region.wanted, yielded]) (fun w' => by go_simp) (fun w' hw' => by
            have e : w' = wr.drew := hw'
            subst e
            exact hWB.out _ rfl) ?_; go_simp; (with_reducible apply hK); clear hK K)
      refine wpTwo_nil ?_
      rintro w3 h3
      have H3 := Lib.hid h3
      clear h3 hr hWB
      go_wp2_with fail
      go_roundw
      case rel => exact ⟨i + 1, by go_num, by omega, H3⟩
      case measure => simp [intOf]; omega
    · obtain rfl : i = K := by omega
      have HT : Hid (List.take i (beK i N) = beK i N) := List.take_of_length_le (by rw [beK_len]; exact Nat.le_refl _)
      rw [HT.out] at hr
      go_wp2_with fail
      go_ret
      exact ⟨hr.out, rfl⟩
theorem put4_ok (B b : Nat) (l : List UInt8) (N : Nat) (w : World) (h : IsO B b l w) (hl : l.length < 1000000) (hBw : B ≤ w.heap.size) :
    Calls Tryz.prog 59 #[.pointer (some ⟨b, 0, none⟩), .int .u64 (N : Nat), .int .i64 4] w fun e w' => (IsO B b (l ++ be4 N) w' ∧ Below B w w') ∧ e = .returned (.pointer (some ⟨b, 0, none⟩)) := by
  have h1 := put_ok B b l 4 N w h hl (by decide) hBw
  rw [be4_is] at h1
  exact h1
set_option maxHeartbeats 1000000 in
theorem u32_ok (B b : Nat) (l : List UInt8) (N : Nat) (w : World) (h : IsO B b l w) (hl : l.length < 1000000) (hN : N < 4294967296) (hBw : B ≤ w.heap.size) :
    Calls Tryz.prog 26 #[.pointer (some ⟨b, 0, none⟩), .int .u32 (N : Nat)] w fun e w' => (IsO B b (l ++ be4 N) w' ∧ Below B w w') ∧ e = .returned (.pointer (some ⟨b, 0, none⟩)) := by
  have P := Lib.hid (put4_ok B b l N w h hl hBw)
  clear h
  generalize be4 N = R at *
  go_enter Tryz.func26, Tryz.ntmps26
  go_wp2_with (go_at_call 59; refine P.out.mono ?_; rintro e w2 ⟨hb, rfl⟩)
  go_ret
  exact ⟨hb, rfl⟩
set_option maxHeartbeats 1000000 in
theorem raw_ok (B b : Nat) (l s : List UInt8) (w : World) (h : IsO B b l w) (hl : l.length + s.length < 100000000) (hBw : B ≤ w.heap.size) :
    Calls Tryz.prog 28 #[.pointer (some ⟨b, 0, none⟩), .string (by8 s)] w fun e w' => (IsO B b (l ++ s) w' ∧ Below B w w') ∧ e = .returned (.pointer (some ⟨b, 0, none⟩)) := by
  have P := Lib.hid (wstring_ok B b l s w h hl hBw)
  clear h
  go_enter Tryz.func28, Tryz.ntmps28
  go_wp2_with (go_at_call 61; refine P.out.mono ?_; rintro e w2 ⟨hb, u, rfl⟩)
  go_ret
  exact ⟨hb, rfl⟩
/-- a text: its length, and it -/
def tx (s : List UInt8) : List UInt8 := be4 s.length ++ s
set_option maxHeartbeats 1000000 in
theorem otext_ok (B b : Nat) (l s : List UInt8) (w : World) (h : IsO B b l w) (hl : l.length < 900000) (hs : s.length < 900000) (hBw : B ≤ w.heap.size) :
    Calls Tryz.prog 38 #[.pointer (some ⟨b, 0, none⟩), .string (by8 s)] w fun e w' => (IsO B b (l ++ tx s) w' ∧ Below B w w') ∧ e = .returned (.pointer (some ⟨b, 0, none⟩)) := by
  have P := Lib.hid (u32_ok B b l s.length w h (by omega) (by omega) hBw)
  have hsz := by8_size s
  have W : IntKind.u32.wrap ((s.length : Nat) : Int) = ((s.length : Nat) : Int) := by rw [IntKind.wrap_u32]; omega
  clear h
  go_enter Tryz.func38, Tryz.ntmps38
  go_wp2_with (first | (go_at_call 26; refine P.out.mono ?_; rintro e w2 ⟨⟨hb1, hb2⟩, rfl⟩; have P2 := Lib.hid (raw_ok B b (l ++ be4 s.length) s w2 hb1 (by rw [List.length_append, show (be4 s.length).length = 4 from rfl]; omega) (Nat.le_trans hBw hb2.size))) | (go_at_call 28; refine P2.out.mono ?_; rintro e w3 ⟨⟨hc1, hc2⟩, rfl⟩))
  go_ret
  refine ⟨⟨?_, hb2.trans hc2⟩, rfl⟩
  unfold tx
  rw [← List.append_assoc]
  exact hc1
set_option maxHeartbeats 1000000 in
theorem obytes_ok (B b : Nat) (l : List UInt8) (w : World) (h : IsO B b l w) (h0 : l ≠ []) (hBw : B ≤ w.heap.size) :
    Calls Tryz.prog 30 #[.pointer (some ⟨b, 0, none⟩)] w fun e w' => e = .returned (.string (by8 l)) ∧ Below B w w' := by
  have P := Lib.hid (wstr_ok B b l w h h0 hBw)
  clear h
  go_enter Tryz.func30, Tryz.ntmps30
  go_wp2_with (go_at_call 66; refine P.out.mono ?_; rintro e w2 ⟨rfl, hb⟩)
  go_ret
  exact ⟨rfl, hb⟩
set_option maxHeartbeats 1000000 in
theorem obyte_ok (B b : Nat) (l : List UInt8) (x : UInt8) (w : World) (h : IsO B b l w) (hl : l.length < 1000000) (hBw : B ≤ w.heap.size) :
    Calls Tryz.prog 27 #[.pointer (some ⟨b, 0, none⟩), .int .u8 (x.toNat : Nat)] w fun e w' => (IsO B b (l ++ [x]) w' ∧ Below B w w') ∧ e = .returned (.pointer (some ⟨b, 0, none⟩)) := by
  have P := Lib.hid (wbyte_ok B b l x w h (by omega) hBw)
  clear h
  go_enter Tryz.func27, Tryz.ntmps27
  go_wp2_with (go_at_call 60; refine P.out.mono ?_; rintro e w2 ⟨hb, rfl⟩)
  go_ret
  exact ⟨hb, rfl⟩
set_option maxHeartbeats 1000000 in
theorem obool_ok (B b : Nat) (l : List UInt8) (x : Bool) (w : World) (h : IsO B b l w) (hl : l.length < 1000000) (hBw : B ≤ w.heap.size) :
    Calls Tryz.prog 36 #[.pointer (some ⟨b, 0, none⟩), .bool x] w fun e w' => (IsO B b (l ++ [if x then 1 else 0]) w' ∧ Below B w w') ∧ e = .returned (.pointer (some ⟨b, 0, none⟩)) := by
  have P := Lib.hid (obyte_ok B b l (if x then 1 else 0) w h hl hBw)
  clear h
  cases x
  · go_enter Tryz.func36, Tryz.ntmps36
    go_wp2_with (go_at_call 27; refine P.out.mono ?_; rintro e w2 ⟨hb, rfl⟩)
    go_ret
    exact ⟨hb, rfl⟩
  · go_enter Tryz.func36, Tryz.ntmps36
    go_wp2_with (go_at_call 27; refine P.out.mono ?_; rintro e w2 ⟨hb, rfl⟩)
    go_ret
    exact ⟨hb, rfl⟩
theorem put8_ok (B b : Nat) (l : List UInt8) (N : Nat) (w : World) (h : IsO B b l w) (hl : l.length < 1000000) (hBw : B ≤ w.heap.size) :
    Calls Tryz.prog 59 #[.pointer (some ⟨b, 0, none⟩), .int .u64 (N : Nat), .int .i64 8] w fun e w' => (IsO B b (l ++ beK 8 N) w' ∧ Below B w w') ∧ e = .returned (.pointer (some ⟨b, 0, none⟩)) :=
  put_ok B b l 8 N w h hl (by decide) hBw
set_option maxHeartbeats 1000000 in
theorem u64_ok (B b : Nat) (l : List UInt8) (N : Nat) (w : World) (h : IsO B b l w) (hl : l.length < 1000000) (hBw : B ≤ w.heap.size) :
    Calls Tryz.prog 69 #[.pointer (some ⟨b, 0, none⟩), .int .u64 (N : Nat)] w fun e w' => (IsO B b (l ++ beK 8 N) w' ∧ Below B w w') ∧ e = .returned (.pointer (some ⟨b, 0, none⟩)) := by
  have P := Lib.hid (put8_ok B b l N w h hl hBw)
  clear h
  generalize beK 8 N = R at *
  go_enter Tryz.func69, Tryz.ntmps69
  go_wp2_with (go_at_call 59; refine P.out.mono ?_; rintro e w2 ⟨hb, rfl⟩)
  go_ret
  exact ⟨hb, rfl⟩
end Wob
end Go.Proofs.YtcbkbjpdfanjpaaGreatDoor

namespace Go.Proofs.YtcbkbjpdfanjpaaGreatDoor
open Go.RowKit

set_option maxHeartbeats 400000 in
theorem cut_ok (s : ByteArray) (n : Nat) (w : World) :
    Calls Tryz.prog 21 #[.string s, .int .i64 n] w fun e w' => e = .returned (.string (s.extract 0 n)) ∧ w = w' := by
  have H1 := Lib.hid (show s.size ≤ n → s.extract 0 n = s from fun h => by
    apply ByteArray.ext; simp [ByteArray.data_extract]; omega)
  go_enter Tryz.func21, Tryz.ntmps21
  go_wp2
  · go_ret
    exact ⟨rfl, rfl⟩
  · go_ret
    exact ⟨by rw [H1.out (by omega)]; rfl, rfl⟩
end Go.Proofs.YtcbkbjpdfanjpaaGreatDoor
