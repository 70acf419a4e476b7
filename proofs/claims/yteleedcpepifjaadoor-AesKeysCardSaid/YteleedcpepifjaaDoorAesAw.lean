/-
awake of the law.
-/
import Derived.Test.YteleedcpepifjaaDoorAesA
import Derived.ChangeKeysEq
namespace Go.Proofs.YteleedcpepifjaaDoor
open Go.RowKit AesP
set_option maxRecDepth 100000
theorem part_b8 (w : World) (l : List Nat) (i : Nat) (h : i < l.length) : (Go.part 5 (b8 l).toArray (i * 1)).run Tryd.prog w = .ok (.int .u8 (l.getD i 0 : Nat)) w := by
  have e := b8_get l i h
  exact run_part_plain w (by kernel_rfl) (by rw [Nat.mul_one, List.getElem?_toArray]; exact e)
theorem eqItems_b8 (w : World) (l : List Nat) : ∀ (is : List Nat), (∀ i ∈ is, i < l.length) → (Op.eqItems 9999 5 1 (b8 l).toArray (b8 l).toArray is).run Tryd.prog w = .ok true w
  | [], _ => by simp [Op.eqItems]
  | i :: is, h => by
    have hi := h i (List.mem_cons_self ..)
    have ih := eqItems_b8 w l is (fun j hj => h j (List.mem_cons_of_mem _ hj))
    have hq : (((l.getD i 0 : Nat) : Int) == ((l.getD i 0 : Nat) : Int)) = true := by simp
    simp only [Op.eqItems, Sem.run_bind, part_b8 w l i hi, Result.andThen_ok, run_equalIn_int w 9998 5 .u8 .u8 _ _ Tryd.underlying5, hq]
    exact ih
theorem eq16 (w : World) (l : List Nat) (hl : l.length = 16) : (Op.equalIn 10000 25 (.agg (b8 l).toArray) (.agg (b8 l).toArray)).run Tryd.prog w = .ok true w := by
  obtain ⟨i0, hi, _, h1, _⟩ := u8I
  rw [run_equalIn_array w 9999 (b8 l).toArray (b8 l).toArray Tryd.underlying25 hi, show Tryd.prog.cellsOf 5 = 1 from by kernel_rfl, eqItems_b8 w l _ (fun i h => by rw [hl]; exact List.mem_range.1 h)]
/-- a slice of an array of bytes -/
theorem Blk.sl {w : World} {b : Nat} {t : TypeId} {l : List Nat} (h : Blk w b t (b8 l)) {m : Nat} (hm : m ≤ l.length) (hl : l.length ≤ maxLen) : Sg w 1 (.slice (some ⟨b, 0, none⟩) m l.length) m (b8 (l.take m)) := by
  refine ⟨by rw [b8_len, List.length_take]; omega, _, _, rfl, hm, hl, .inr ⟨b, 0, rfl, h.lt, fun j hj => ?_, fun j hj => ?_⟩⟩
  · rw [Nat.zero_add, h.b8cell j (by omega)]
    exact ⟨rfl, h.free _⟩
  · have hj' : j < m := by omega
    rw [Nat.zero_add, h.b8cell j (by omega), b8_get _ j (by rw [List.length_take]; omega), List.getD_eq_getElem?_getD, List.getD_eq_getElem?_getD, List.getElem?_take_of_lt hj']
theorem Blk.str {w : World} {b : Nat} {t : TypeId} {l : List Nat} (h : Blk w b t (b8 l)) (hb : By l) (hl : l.length ≤ maxLen) : (convert 34 9 (.slice (some ⟨b, 0, none⟩) l.length l.length)).run Tryd.prog w = .ok (.string (bsL l)) w := by
  have e := h.sl (Nat.le_refl _) hl
  rw [List.take_length] at e
  exact run_str8 hb e
def awX : List Nat := [105, 196, 224, 216, 106, 123, 4, 48, 216, 205, 183, 128, 112, 180, 197, 90]
theorem hex_fact : (⟨(hexL (bsL awX).data.toList).toArray⟩ : ByteArray) = { data := #[54, 57, 99, 52, 101, 48, 100, 56, 54, 97, 55, 98, 48, 52, 51, 48, 100, 56, 99, 100, 98, 55, 56, 48, 55, 48, 98, 52, 99, 53, 53, 97] } := by decide +kernel
def awK : List Nat := List.range 16
def awB : List Nat := (List.range 16).map (17 * ·)
def awW : List Nat := (kexp sbF 4 awK 40).1
theorem aw_fact : block sbT awW 10 awB = awX := by decide +kernel
theorem bsL_len (l : List Nat) : (bsL l).size = l.length := by simp [bsL, ByteArray.size]
theorem bsL_app (a b : List Nat) : bsL a ++ bsL b = bsL (a ++ b) := by
  apply ByteArray.ext
  simp [bsL, ByteArray.data_append]
set_option maxHeartbeats 4000000 in
theorem awake_ok (w : World) : Calls Tryd.prog 8 #[] w fun e w' => e = .returned (.bool true) ∧ Below w.heap.size w w' := by
  go_enter Tryd.func8, Tryd.ntmps8
  have H0 : Hid (Blk (w.alloc (.cells (b8 z16).toArray 25)) w.heap.size 25 (b8 (bl (fun i => 17 * i) (fun _ => 0) 0 16)) ∧ Below w.heap.size w (w.alloc (.cells (b8 z16).toArray 25))) :=
    Lib.hid ⟨Blk.new w 25 (b8 z16), below1 w _⟩
  go_wp2_with fail
  go_loopw [1, 7] (fun v1 v7 wx => ∃ i : Nat, v1 = .string (bsL (List.range i)) ∧ v7 = .int .i64 i ∧ i ≤ 16 ∧ Hid (Blk wx w.heap.size 25 (b8 (bl (fun i => 17 * i) (fun _ => 0) i 16)) ∧ Below w.heap.size w wx)) (fun _ v _ => 16 - (intOf v).toNat)
  case atStart => exact ⟨0, rfl, rfl, by omega, H0⟩
  case round =>
    obtain ⟨i, rfl, rfl, hi, hr⟩ := hrel
    clear H0
    rcases Nat.lt_or_ge i 16 with h | h
    · have hcv : IntKind.u8.wrap (i : Int) = i := by rw [IntKind.wrap_u8]; omega
      have hst := run_str8 (l := [i]) (fun x hx => by simp at hx; omega) (lit_b8 wr 5 i)
      have D1 := below1 wr (.cells #[.int .u8 (i : Nat)] 5)
      have B1 := hr.out.1.below D1 hr.out.1.lt
      have c1 := B1.b8cell i (by rw [bl_len]; exact h)
      have f1 := B1.free i
      have hsz := bsL_len (List.range i)
      rw [List.length_range] at hsz
      have hsz1 : (bsL [i]).size = 1 := bsL_len [i]
      have H2 : Hid (Blk ((wr.alloc (.cells #[.int .u8 (i : Nat)] 5)).setCell ⟨w.heap.size, i, none⟩ (.int .u8 (17 * i : Nat))) w.heap.size 25 (b8 (bl (fun i => 17 * i) (fun _ => 0) (i + 1) 16)) ∧ Below w.heap.size w ((wr.alloc (.cells #[.int .u8 (i : Nat)] 5)).setCell ⟨w.heap.size, i, none⟩ (.int .u8 (17 * i : Nat)))) :=
        Lib.hid ⟨by rw [← bl_set]; exact B1.b8set i (17 * i), below_set' (hr.out.2.trans (D1.mono hr.out.2.size)) _ _ _ (Nat.le_refl _)⟩
      have hcv2 : IntKind.u8.wrap ((i : Int) * 17) = ((17 * i : Nat) : Int) := by rw [IntKind.wrap_u8]; omega
      clear D1 B1 hr
      go_wp2_with fail
      refine ⟨⟨i + 1, by rw [bsL_app, List.range_succ], by go_num, by omega, H2⟩, ?_⟩
      simp [intOf]; omega
    · have h16 : i = 16 := by omega
      rw [h16, bl_full, show ml 16 (fun i => 17 * i) = awB from rfl] at hr
      have hkb : By awK := fun x hx => by have := List.mem_range.1 hx; omega
      have hnk : natL (bsL awK) = awK := natL_bsL hkb
      have hks : (bsL awK).size = 4 * 4 := bsL_len awK
      have hnew := new_ok (bsL awK) 4 (.inl rfl) hks wr
      rw [hnk] at hnew
      have hW : (kexp subN 4 awK (3 * 4 + 28)).1 = awW := by
        rw [← kexp_congr (f := sbF) (g := subN) (fun x hx => sb_at hx) sbF_lt 4 hkb]
        rfl
      rw [hW] at hnew
      have HNEW := Lib.hid hnew
      have hbb : By awB := by
        intro x hx
        obtain ⟨y, hy, rfl⟩ := List.mem_map.1 hx
        have := List.mem_range.1 hy
        omega
      have HBB := Lib.hid hbb
      have hr16 : List.range 16 = awK := rfl
      rw [h16, hr16]
      clear hkb hnk hks hnew hW hbb hr16 h16 hi
      go_upto_region 10 with (go_at_call 9; refine HNEW.out.mono ?_; rintro e w2 ⟨c, t, bw, o, cap, rfl, hci, hb2⟩)
      have B2 := Lib.hid (hr.out.1.below hb2 hr.out.1.lt)
      have hblk := block_ok c t bw o 44 cap 10 awW awB rfl (by decide) rfl HBB.out w2 hci
      rw [aw_fact] at hblk
      have HBLK := Lib.hid hblk
      have hxb : By awX := by
        rw [← aw_fact]
        exact block_by hci.2.2.2.2.2 HBB.out 10
      have HXB := Lib.hid hxb
      have hbk : back bkT awW 10 awX = awB := by rw [← aw_fact]; exact back_block hci.2.2.2.2.2 rfl HBB.out 10
      have HBK := Lib.hid hbk
      have HCI := Lib.hid (And.intro hci (hr.out.2.trans (hb2.mono hr.out.2.size)))
      clear hblk hxb hbk hci hr hb2 HNEW
      go_upto_region 12 with fail
      go_upto_region 13 with (first | (refine load_blk B2.out Tryd.underlying25 rfl blk_size rfl rfl rfl rfl ?_) | (go_at_call 11; refine HBLK.out.mono ?_; rintro e w3 ⟨rfl, hb3⟩; have A3 := Lib.hid (Blk.new w3 25 (b8 z16))) | (refine store_blk A3.out blk_size rfl rfl (b8_one _) rfl rfl rfl rfl ?_))
      have H4 : Hid (Blk ((w3.alloc (.cells (b8 z16).toArray 25)).setRow w3.heap.size (b8 awX).toArray) w3.heap.size 25 (b8 awX) ∧ Blk ((w3.alloc (.cells (b8 z16).toArray 25)).setRow w3.heap.size (b8 awX).toArray) w.heap.size 25 (b8 awB) ∧ Ci ((w3.alloc (.cells (b8 z16).toArray 25)).setRow w3.heap.size (b8 awX).toArray) c t bw o 44 cap awW ∧ Below w.heap.size w ((w3.alloc (.cells (b8 z16).toArray 25)).setRow w3.heap.size (b8 awX).toArray)) := by
        have D : Below w3.heap.size w3 ((w3.alloc (.cells (b8 z16).toArray 25)).setRow w3.heap.size (b8 awX).toArray) := below_row (below1 w3 _) _ _ (Nat.le_refl _)
        have D2 : Below w2.heap.size w2 ((w3.alloc (.cells (b8 z16).toArray 25)).setRow w3.heap.size (b8 awX).toArray) := hb3.trans (D.mono hb3.size)
        exact Lib.hid ⟨A3.out.setRow _, B2.out.below D2 B2.out.lt, HCI.out.1.below D2, HCI.out.2.trans (D2.mono HCI.out.2.size)⟩
      have HGEN : ∃ w4 x6, w4 = (w3.alloc (.cells (b8 z16).toArray 25)).setRow w3.heap.size (b8 awX).toArray ∧ x6 = w3.heap.size := ⟨_, _, rfl, rfl⟩
      obtain ⟨w4, x6, hw4, hx6⟩ := HGEN
      rw [show w3.alloc (Obj.cells #[Value.int .u8 0, Value.int .u8 0, Value.int .u8 0, Value.int .u8 0, Value.int .u8 0, Value.int .u8 0, Value.int .u8 0, Value.int .u8 0, Value.int .u8 0, Value.int .u8 0, Value.int .u8 0, Value.int .u8 0, Value.int .u8 0, Value.int .u8 0, Value.int .u8 0, Value.int .u8 0] 25) = w3.alloc (.cells (b8 z16).toArray 25) from rfl, ← hw4, ← hx6]
      rw [← hw4, ← hx6] at H4
      clear hw4 hx6 A3 hb3 B2 HBLK HCI
      obtain ⟨bb, hbb⟩ : ∃ bb, bb = w.heap.size := ⟨_, rfl⟩
      have H5 : Hid (Blk w4 x6 25 (b8 awX) ∧ Blk w4 bb 25 (b8 awB) ∧ Ci w4 c t bw o 44 cap awW ∧ Below w.heap.size w w4) := by rw [hbb]; exact H4
      rw [show (Value.pointer (some ⟨w.heap.size, 0, none⟩)) = .pointer (some ⟨bb, 0, none⟩) by rw [hbb]]
      clear H4 hbb
      have D4 := below_drewN (Below.refl w4.heap.size w4) 1
      have X4 := Lib.hid (H5.out.1.below D4 H5.out.1.lt)
      have B4 := Lib.hid (H5.out.2.1.below D4 H5.out.2.1.lt)
      have C4 := Lib.hid (H5.out.2.2.1.below D4)
      have W4 := Lib.hid (H5.out.2.2.2.trans (D4.mono H5.out.2.2.2.size))
      clear D4 H5
      have hst : Hid (∀ w', Below w4.drew.heap.size w4.drew w' → (convert 34 9 (.slice (some ⟨x6, 0, none⟩) 16 16)).run Tryd.prog w' = .ok (.string (bsL awX)) w') := Lib.hid fun w' hw' => (X4.out.below hw' X4.out.lt).str HXB.out (by decide)
      have hhx : Hid (∀ w', Calls Tryd.prog 18 #[.string (bsL awX)] w' fun e w'' => e = .returned (.string { data := #[54, 57, 99, 52, 101, 48, 100, 56, 54, 97, 55, 98, 48, 52, 51, 48, 100, 56, 99, 100, 98, 55, 56, 48, 55, 48, 98, 52, 99, 53, 53, 97] }) ∧ Below w'.heap.size w' w'') := Lib.hid fun w' => by
        have h := hex_ok (bsL awX) (by rw [bsL_len]; decide) (by rw [bsL_len]; decide) w'
        rw [hex_fact] at h
        exact h
      have hbk : Hid (∀ w', Below w4.drew.heap.size w4.drew w' → Calls Tryd.prog 13 #[.pointer (some ⟨c, 0, none⟩), .agg (b8 awX).toArray] w' fun e w'' => e = .returned (.agg (b8 awB).toArray) ∧ Below w'.heap.size w' w'') := Lib.hid fun w' hw' => by
        have h := back_ok c t bw o 44 cap 10 awW awX rfl (by decide) (by decide) rfl HXB.out w' (C4.out.below hw')
        rw [HBK.out] at h
        exact h
      have heq := fun w' => eq16 w' awB rfl
      have HEQ := Lib.hid heq
      clear heq
      (refine wp_region_quiet_tail (C := fun w' => Below w4.drew.heap.size w4.drew w') 11 (by kernel_rfl) (by kernel_rfl) (Below.refl _ _) ?_; simp only [List.take_succ_cons, List.take_zero, List.drop_succ_cons, List.drop_zero])
      ((with_reducible refine wpQuiet_step (fun K hK => ?_)); refine quiet_plainG (.slice (some ⟨x6, 0, none⟩) 16 16) (by first | rfl | simp [Region.wanted, yielded]) (fun w' hw' => by go_simp) ?_; go_simp; (with_reducible apply hK); clear hK K)
      ((with_reducible refine wpQuiet_step (fun K hK => ?_)); refine quiet_plainG (.string (bsL awX)) (by first | rfl | simp [Region.wanted, yielded]) (fun w' hw' => by have e := hst.out w' hw'; go_simp) ?_; go_simp; (with_reducible apply hK); clear hK K)
      ((with_reducible refine wpQuiet_step (fun K hK => ?_)); refine quiet_callG (.string { data := #[54, 57, 99, 52, 101, 48, 100, 56, 54, 97, 55, 98, 48, 52, 51, 48, 100, 56, 99, 100, 98, 55, 56, 48, 55, 48, 98, 52, 99, 53, 53, 97] }) 18 #[.string (bsL awX)] (by first | rfl | simp [Region.wanted, yielded]) (fun w' => by go_simp) (fun w' hw' => (hhx.out w').mono (by rintro e w'' ⟨rfl, hb⟩; exact ⟨rfl, hw'.trans (hb.mono hw'.size)⟩)) ?_; go_simp; (with_reducible apply hK); clear hK K)
      ((with_reducible refine wpQuiet_step (fun K hK => ?_)); refine quiet_plainG (.bool true) (by first | rfl | simp [Region.wanted, yielded]) (fun w' hw' => by go_simp) ?_; go_simp; (with_reducible apply hK); clear hK K)
      ((with_reducible refine wpQuiet_step (fun K hK => ?_)); refine quiet_plainG (.bool true) (by first | rfl | simp [Region.wanted, yielded]) (fun w' hw' => by go_simp) ?_; go_simp; (with_reducible apply hK); clear hK K)
      ((with_reducible refine wpQuiet_step (fun K hK => ?_)); refine quiet_plainG (.pointer (some ⟨c, 0, none⟩)) (by first | rfl | simp [Region.wanted, yielded]) (fun w' hw' => by go_simp) ?_; go_simp; (with_reducible apply hK); clear hK K)
      ((with_reducible refine wpQuiet_step (fun K hK => ?_)); refine quiet_loadB (fun w' hw' => X4.out.below hw' X4.out.lt) Tryd.underlying25 rfl blk_size (by rfl) (by first | rfl | simp [Region.wanted, yielded]) rfl (by go_simp) ?_; go_simp; (with_reducible apply hK); clear hK K)
      ((with_reducible refine wpQuiet_step (fun K hK => ?_)); refine quiet_callG (.agg (b8 awB).toArray) 13 #[.pointer (some ⟨c, 0, none⟩), .agg (b8 awX).toArray] (by first | rfl | simp [Region.wanted, yielded]) (fun w' => by go_simp) (fun w' hw' => (hbk.out w' hw').mono (by rintro e w'' ⟨rfl, hb⟩; exact ⟨rfl, hw'.trans (hb.mono hw'.size)⟩)) ?_; go_simp; (with_reducible apply hK); clear hK K)
      ((with_reducible refine wpQuiet_step (fun K hK => ?_)); refine quiet_loadB (fun w' hw' => B4.out.below hw' B4.out.lt) Tryd.underlying25 rfl blk_size (by rfl) (by first | rfl | simp [Region.wanted, yielded]) rfl (by go_simp) ?_; go_simp; (with_reducible apply hK); clear hK K)
      ((with_reducible refine wpQuiet_step (fun K hK => ?_)); refine quiet_plainG (.bool true) (by first | rfl | simp [Region.wanted, yielded]) (fun w' hw' => by have e := HEQ.out w'; go_simp; try simp [e]) ?_; go_simp; (with_reducible apply hK); clear hK K)
      ((with_reducible refine wpQuiet_step (fun K hK => ?_)); refine quiet_plainG (.bool true) (by first | rfl | simp [Region.wanted, yielded]) (fun w' hw' => by go_simp) ?_; go_simp; (with_reducible apply hK); clear hK K)
      refine wpQuiet_nil ?_
      intro w5 hw5
      go_wp2_with fail
      go_ret
      exact ⟨rfl, W4.out.trans (hw5.mono W4.out.size)⟩
end Go.Proofs.YteleedcpepifjaaDoor
