/-
sha2.Hex: a strings.Builder written by the call itself.
-/
import Derived.Test.YteleedcpepifjaaDoorAesO
import Derived.Lib.Builder
import Derived.Lib.UnsafeStr
import Derived.Shelf.RegionOpenPlain
namespace Go.Proofs.YteleedcpepifjaaDoor
open Go.RowKit AesP
set_option maxRecDepth 100000
theorem bldI : ∃ j, Tryd.prog.info? 72 = some j ∧ j.size = 2 := by
  have h : (Tryd.prog.info? 72).map (fun i => i.size) = some 2 := by kernel_rfl
  cases hi : Tryd.prog.info? 72 with
  | none => rw [hi] at h; cases h
  | some i =>
    rw [hi] at h
    simp only [Option.map_some, Option.some.injEq] at h
    exact ⟨i, rfl, h⟩
theorem check_ok (B b : Nat) (bs : List Value) (w : World) (h : Lib.IsBuilder 72 5 B b bs w) :
    Calls Tryd.prog 39 #[.pointer (some ⟨b, 0, none⟩)] w fun e w' => (Lib.BuilderAt 72 5 B b (.pointer (some ⟨b, 0, none⟩)) bs w' ∧ Below B w w') ∧ ∃ u, e = .returned u := by
  obtain ⟨j, hj, hj2⟩ := bldI
  have hneq : ∀ w', (binOp .neq 70 (.pointer (some ⟨b, 0, none⟩)) (.pointer (some ⟨b, 0, none⟩))).run Tryd.prog w' = .ok (.bool false) w' := fun w' => Lib.run_neq_ptr_same w' ⟨b, 0, none⟩ Tryd.underlying70 hj
  have hcf : ∀ w', (callFunc 40 #[.pointer (some ⟨b, 0, none⟩)]).run Tryd.prog w' = .ok (.value (.pointer (some ⟨b, 0, none⟩))) w' := fun w' => by
    rw [run_callFunc_extern Tryd.func40 (by kernel_rfl) (by kernel_rfl) (by kernel_rfl) (e := Extern.AbiNoEscape.same) (by kernel_rfl), Lib.run_noEscape]
    rfl
  go_enter Tryd.func39, Tryd.ntmps39
  rcases h with h | h
  · have hsh := h.shape
    have hto : (convert 70 93 (.pointer (some ⟨b, 0, none⟩))).run Tryd.prog w = .ok (.pointer (some ⟨b, 0, none⟩)) w := Lib.run_to_unsafe w ⟨b, 0, none⟩ Tryd.underlying70 Tryd.underlying93 hj (by rw [hj2]; decide) hsh (Nat.zero_lt_succ 1)
    have hfrom : (convert 93 70 (.pointer (some ⟨b, 0, none⟩))).run Tryd.prog w = .ok (.pointer (some ⟨b, 0, none⟩)) w := Lib.run_from_unsafe w ⟨b, 0, none⟩ Tryd.underlying93 Tryd.underlying70 hj hsh (by kernel_rfl)
    have c0 := h.cell0
    have f0 := h.frozen0
    have HH := Lib.hid (And.intro (h.used (.pointer (some ⟨b, 0, none⟩))) h.1)
    clear hj hj2 hsh h
    go_wp2_with fail
    go_end0
    exact ⟨⟨HH.out.1, (Below.refl B w).setCell (p := ⟨b, 0, none⟩) HH.out.2 _⟩, _, rfl⟩
  · have c0 := h.cell0
    have HH := Lib.hid h
    clear hj hj2 h
    go_wp2_with fail
    go_end0
    exact ⟨⟨HH.out, Below.refl _ _⟩, _, rfl⟩
theorem byv_app (a b : List UInt8) : byv (a ++ b) = byv a ++ byv b := by simp [byv]
set_option maxHeartbeats 2000000 in
theorem wbyte_ok (B b : Nat) (l : List UInt8) (x : UInt8) (w : World) (h : Lib.IsBuilder 72 5 B b (byv l) w) (hl : l.length < 1000) (hBw : B ≤ w.heap.size) :
    Calls Tryd.prog 33 #[.pointer (some ⟨b, 0, none⟩), .int .u8 (x.toNat : Nat)] w fun e w' => (Lib.IsBuilder 72 5 B b (byv (l ++ [x])) w' ∧ Below B w w') ∧ ∃ u, e = .returned u := by
  obtain ⟨j0, hj, hj0, hj1, hj2⟩ := u8I
  have J := Lib.hid hj
  have J0 := Lib.hid hj0
  have J1 := Lib.hid hj1
  have J2 := Lib.hid hj2
  clear hj hj0 hj1 hj2
  have HCK := Lib.hid (check_ok B b (byv l) w h)
  clear h
  go_enter Tryd.func33, Tryd.ntmps33
  go_upto_region 2 with (go_at_call 39; refine HCK.out.mono ?_; rintro e w1 ⟨⟨h1, hb1⟩, u1, rfl⟩)
  obtain ⟨hB, v, hbk, hown, hne⟩ := h1
  have hln : (byv l).length = l.length := byv_len l
  rw [hln] at hown
  have c1 : w1.cell? ⟨b, 1, none⟩ = some v := by rw [Lib.cell_of_heap hbk]; rfl
  have hs1 := hb1.size
  have HO := Lib.hid (hown.alloc (.cells #[.int .u8 (x.toNat : Nat)] 5))
  have HBK := Lib.hid hbk
  have HNE := Lib.hid hne
  have HB1 := Lib.hid hb1
  have HLT := Lib.hid hown.lt
  clear hbk hne hb1 hown hln HCK
  go_wp2_with (at_builtin; refine wpList_append_own _ rfl (.tmp 11) (.tmp 13) 34 rfl B 5 j0 (.int .u8 0) 1 1 Tryd.underlying34 J.out J0.out J1.out J2.out rfl (by decide) v l.length _ rfl HO.out ⟨w1.heap.size, 0, none⟩ 1 1 [.int .u8 (x.toNat : Nat)] rfl rfl ?c1 ?c2 ?c3 ?c4 ?c5 ?c6)
  case c1 =>
    intro j u hj
    match j, hj with
    | 0, hj => simp at hj; subst hj; simp [Addr.add]
  case c2 => intro u hu; simp at hu; subst hu; rfl
  case c3 => unfold maxLen; omega
  case c4 => omega
  case c5 => simp; omega
  case c6 =>
    intro v' w2 hown' hgrow _
    have hlt : b < w1.heap.size := by
      rcases Nat.lt_or_ge b w1.heap.size with h' | h'
      · exact h'
      · have e := HBK.out
        simp [Array.getElem?_eq_none h'] at e
    have hb2 : w2.heap[b]? = some (.cells #[.pointer (some ⟨b, 0, none⟩), v] 72 (0, 0)) := by
      rw [hgrow.block b (by simp; omega) (fun e => HNE.out e.symm), Lib.alloc_old w1 _ b hlt]
      exact HBK.out
    have d1 : w2.cell? ⟨b, 1, none⟩ = some v := by rw [Lib.cell_of_heap hb2]; rfl
    have f1 : w2.frozen? ⟨b, 1, none⟩ = false := Lib.frozen_of_heap hb2 1
    obtain ⟨g, cap, rfl⟩ : ∃ g cap, v' = .slice (some ⟨g, 0, none⟩) (l.length + 1) cap := by
      rcases hown'.2 with ⟨_, h0⟩ | ⟨g, cap, cur, hv, _⟩
      · omega
      · exact ⟨g, cap, hv⟩
    have HBL := Lib.hid (((HB1.out.alloc (by omega) (.cells #[.int .u8 (x.toNat : Nat)] 5)).grown hgrow (by simp; omega) (fun k hk => (HLT.out k hk).1)).setCell (p := ⟨b, 1, none⟩) hB (.slice (some ⟨g, 0, none⟩) (l.length + 1) cap))
    have HPUT := Lib.hid (Lib.BuilderAt.put (T := 72) (e := 5) hB hb2 (bs' := byv l ++ [.int .u8 (x.toNat : Nat)]) (v' := .slice (some ⟨g, 0, none⟩) (l.length + 1) cap) (by rw [show (byv l ++ [Value.int .u8 (x.toNat : Nat)]).length = l.length + 1 by simp [byv]]; exact hown') (by decide))
    clear hown' hgrow hb2
    go_wp2_with fail
    go_ret
    refine ⟨⟨.inr ?_, HBL.out⟩, _, rfl⟩
    rw [byv_app]
    exact HPUT.out
set_option maxHeartbeats 2000000 in
theorem wstr_ok (B b : Nat) (l : List UInt8) (w : World) (h : Lib.IsBuilder 72 5 B b (byv l) w) (h0 : l ≠ []) (hBw : B ≤ w.heap.size) :
    Calls Tryd.prog 34 #[.pointer (some ⟨b, 0, none⟩)] w fun e w' => e = .returned (.string ⟨l.toArray⟩) ∧ Below B w w' := by
  obtain ⟨p, hB, v, hbk, hown, hne⟩ : ∃ p, Lib.BuilderAt 72 5 B b p (byv l) w := by
    rcases h with h | h
    · exact ⟨_, h⟩
    · exact ⟨_, h⟩
  have hl0 : l.length ≠ 0 := by simpa using h0
  rw [byv_len] at hown
  obtain ⟨g, cap, cur, rfl, hbg, hg, hnc, hcm, hcs, htake⟩ : ∃ g cap cur, v = .slice (some ⟨g, 0, none⟩) l.length cap ∧ B ≤ g ∧ w.heap[g]? = some (.cells cur 5 (0, 0)) ∧ l.length ≤ cap ∧ cap ≤ maxLen ∧ cur.size = cap * 1 ∧ cur.toList.take (l.length * 1) = byv l := by
    rcases hown.2 with ⟨_, hz⟩ | ⟨g, cap, cur, hv, r⟩
    · exact absurd hz hl0
    · exact ⟨g, cap, cur, hv, r⟩
  have c1 : w.drew.cell? ⟨b, 1, none⟩ = some (.slice (some ⟨g, 0, none⟩) l.length cap) := by
    have : w.drew.heap[b]? = some (.cells #[p, .slice (some ⟨g, 0, none⟩) l.length cap] 72 (0, 0)) := hbk
    rw [Lib.cell_of_heap this]; rfl
  have hSD : (Builtin.unsafeSliceData_ #[34] 81 #[.slice (some ⟨g, 0, none⟩) l.length cap]).run Tryd.prog w.drew = .ok (.pointer (some ⟨g, 0, none⟩)) w.drew :=
    Lib.run_unsafeSliceData_row _ _ _ _ _ _ (by omega)
  have hUS : (Builtin.unsafeString_ #[81, 3] 9 #[.pointer (some ⟨g, 0, none⟩), .int .i64 l.length]).run Tryd.prog w.drew = .ok (.string ⟨l.toArray⟩) (w.drew.freeze ⟨g, 0, none⟩ l.length) := by
    refine Lib.run_unsafeString_row w.drew 81 3 9 5 Tryd.underlying81 (by kernel_rfl) g cur.size (by have hg' : w.drew.heap[g]? = some (.cells cur 5 (0, 0)) := hg; simp [World.shape?, hg']) l h0 (by omega) (by unfold maxLen at hcm; omega) ?_
    intro j x hx
    have := hown.cells (g := g) rfl j (.int .u8 x.toNat) (by simp [byv, hx])
    exact this
  have mixed : Tryd.prog.follows .mixedOrders = true := by kernel_rfl
  go_enter Tryd.func34, Tryd.ntmps34
  go_wp2
  go_region_o
  all_goals (go_wp2; go_ret; exact ⟨rfl, Lib.below_freeze (Below.drew (Below.refl B w)) (p := ⟨g, 0, none⟩) hbg _⟩)
def digs : ByteArray := { data := #[48, 49, 50, 51, 52, 53, 54, 55, 56, 57, 97, 98, 99, 100, 101, 102] }
def hexC (k : Nat) : UInt8 := digs.data.toList.getD k 0
theorem hexC_at (k : Nat) (h : k < digs.size) : digs[k]'h = hexC k := by_index digs k h
def hexL (l : List UInt8) : List UInt8 := l.flatMap fun x => [hexC (x.toNat / 16), hexC (x.toNat % 16)]
theorem hexL_app (l : List UInt8) (x : UInt8) : hexL (l ++ [x]) = (hexL l ++ [hexC (x.toNat / 16)]) ++ [hexC (x.toNat % 16)] := by simp [hexL]
theorem hexL_len (l : List UInt8) : (hexL l).length = 2 * l.length := by
  induction l with
  | nil => rfl
  | cons x l ih => show (hexC _ :: hexC _ :: hexL l).length = _; simp only [List.length_cons, ih]; omega
theorem and15_u8 (n : Nat) (h : n < 256) : bits .and .u8 (n : Int) 15 = ((n % 16 : Nat) : Int) := by
  have : ∀ n : Fin 256, bits .and .u8 ((n.val : Nat) : Int) 15 = ((n.val % 16 : Nat) : Int) := by decide +kernel
  exact this ⟨n, h⟩
set_option maxHeartbeats 2000000 in
theorem hex_ok (s : ByteArray) (h0 : 0 < s.size) (h1 : s.size < 100) (w : World) :
    Calls Tryd.prog 18 #[.string s] w fun e w' => e = .returned (.string ⟨(hexL s.data.toList).toArray⟩) ∧ Below w.heap.size w w' := by
  have HSZ := Lib.hid (And.intro h0 h1)
  clear h0
  go_enter Tryd.func18, Tryd.ntmps18
  have H0 : Hid (Lib.IsBuilder 72 5 w.heap.size w.heap.size (byv (hexL (s.data.toList.take 0))) (w.alloc (.cells #[.pointer none, .slice none 0 0] 72)) ∧ Below w.heap.size w (w.alloc (.cells #[.pointer none, .slice none 0 0] 72))) :=
    Lib.hid ⟨Lib.fresh_isBuilder _ _ w, below1 w _⟩
  go_wp2_with fail
  go_loopw [7] (fun v wx => ∃ i : Nat, v = .int .i64 i ∧ i ≤ s.size ∧ Hid (Lib.IsBuilder 72 5 w.heap.size w.heap.size (byv (hexL (s.data.toList.take i))) wx ∧ Below w.heap.size w wx)) (fun v _ => s.size - (intOf v).toNat)
  case atStart => exact ⟨0, rfl, by omega, H0⟩
  case round =>
    obtain ⟨i, rfl, hi, hr⟩ := hrel
    clear H0
    rcases Nat.lt_or_ge i s.size with h | h
    · have hx256 := (s[i]'h).toNat_lt
      have hxe : s[i]'h = s.data.toList.getD i 0 := by_index s i h
      have hll : i < s.data.toList.length := by rw [Array.length_toList]; exact h
      have htk : hexL (s.data.toList.take (i + 1)) = (hexL (s.data.toList.take i) ++ [hexC ((s[i]'h).toNat / 16)]) ++ [hexC ((s[i]'h).toNat % 16)] := by
        rw [← hexL_app, List.take_add_one, List.getElem?_eq_getElem hll, hxe, List.getD_eq_getElem?_getD, List.getElem?_eq_getElem hll]
        rfl
      have hln : (hexL (s.data.toList.take i)).length ≤ 200 := by rw [hexL_len, List.length_take]; omega
      have HTK := Lib.hid htk
      have HLN := Lib.hid hln
      have k1 : (s[i]'h).toNat / 16 < digs.size := by show _ < 16; omega
      have k2 : (s[i]'h).toNat % 16 < digs.size := by show _ < 16; omega
      have ha := and15_u8 _ hx256
      have HA := Lib.hid ha
      have e1 := hexC_at _ k1
      have e2 := hexC_at _ k2
      have E := Lib.hid (And.intro e1 e2)
      have hw1 : Hid (∀ wx, (Lib.IsBuilder 72 5 w.heap.size w.heap.size (byv (hexL (s.data.toList.take i))) wx ∧ Below w.heap.size w wx) → Calls Tryd.prog 33 #[.pointer (some ⟨w.heap.size, 0, none⟩), .int .u8 ((digs[(s[i]'h).toNat / 16]'k1).toNat : Nat)] wx fun e w' => (Lib.IsBuilder 72 5 w.heap.size w.heap.size (byv (hexL (s.data.toList.take i) ++ [hexC ((s[i]'h).toNat / 16)])) w' ∧ Below w.heap.size wx w') ∧ ∃ u, e = .returned u) :=
        Lib.hid fun wx hx => by rw [E.out.1]; exact wbyte_ok _ _ _ _ wx hx.1 (by omega) hx.2.size
      have hw2 : Hid (∀ wx, (Lib.IsBuilder 72 5 w.heap.size w.heap.size (byv (hexL (s.data.toList.take i) ++ [hexC ((s[i]'h).toNat / 16)])) wx ∧ Below w.heap.size w wx) → Calls Tryd.prog 33 #[.pointer (some ⟨w.heap.size, 0, none⟩), .int .u8 ((digs[(s[i]'h).toNat % 16]'k2).toNat : Nat)] wx fun e w' => (Lib.IsBuilder 72 5 w.heap.size w.heap.size (byv (hexL (s.data.toList.take (i + 1)))) w' ∧ Below w.heap.size wx w') ∧ ∃ u, e = .returned u) :=
        Lib.hid fun wx hx => by rw [E.out.2, HTK.out]; exact wbyte_ok _ _ _ _ wx hx.1 (by rw [List.length_append]; show _ + 1 < _; omega) hx.2.size
      clear htk hln hxe hll e1 e2
      go_upto_region 6 with (go_at_call 33; refine (hw1.out _ hr.out).mono ?_; rintro e w1 ⟨⟨hb1, hb2⟩, u1, rfl⟩)
      have hr1 := Lib.hid (And.intro hb1 (hr.out.2.trans hb2))
      clear hb1 hb2 hr
      go_upto_region 7 with (go_at_call 33; refine (hw2.out _ hr1.out).mono ?_; rintro e w2 ⟨⟨hb1, hb2⟩, u2, rfl⟩)
      have hr2 := Lib.hid (And.intro hb1 (hr1.out.2.trans hb2))
      clear hb1 hb2 hr1 ha
      go_wp2_with fail
      go_roundw
      case rel => exact ⟨i + 1, by go_num, by omega, hr2⟩
      case measure => simp [intOf]; omega
    · have hie : i = s.size := by omega
      have hlen : s.data.toList.length = s.size := Array.length_toList
      rw [hie, List.take_of_length_le (by omega)] at hr
      have hne : hexL s.data.toList ≠ [] := by
        intro e
        have := hexL_len s.data.toList
        rw [e] at this
        have := HSZ.out.1
        simp at *
        omega
      have HST := Lib.hid (wstr_ok _ _ _ wr hr.out.1 hne hr.out.2.size)
      clear hie hlen hne
      go_wp2_with (go_at_call 34; with_reducible refine HST.out.mono ?_; rintro e w2 ⟨rfl, hb2⟩)
      go_ret
      exact ⟨rfl, hr.out.2.trans hb2⟩
end Go.Proofs.YteleedcpepifjaaDoor
