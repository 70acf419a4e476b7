/-
The walk of AesKeys.
-/
import Derived.Test.YteleedcpepifjaaDoorAesF
import Derived.Test.YteleedcpepifjaaDoorCut
import Derived.Test.YteleedcpepifjaaDoorErrCode
namespace Go.Proofs.YteleedcpepifjaaDoor
open Go.RowKit AesP
set_option maxRecDepth 100000
set_option maxHeartbeats 2000000 in
theorem new_bad (ad : Nat → Addr) (s : ByteArray) (h1 : s.size ≠ 16) (h2 : s.size ≠ 24) (h3 : s.size ≠ 32) (hm : s.size ≤ 1000) (w : World) (hS : SentF w 95 errGs ad) :
    Calls Tryd.prog 9 #[.string s] w fun e w' => e = .returned (.tuple #[.pointer none, .iface 95 (.pointer (some (ad 9)))]) ∧ Below w.heap.size w w' := by
  have ce : w.cell? ⟨0, 0, none⟩ = some (.iface 95 (.pointer (some (ad 9)))) := hS.cell 9 (by decide)
  have d1 : ((s.size : Int) == 16) = false := by rw [beq_eq_false_iff_ne]; omega
  have d2 : ((s.size : Int) == 24) = false := by rw [beq_eq_false_iff_ne]; omega
  have d3 : ((s.size : Int) == 32) = false := by rw [beq_eq_false_iff_ne]; omega
  clear h1 h2 h3 hS
  go_enter Tryd.func9, Tryd.ntmps9
  go_upto_region 3 with fail
  go_region
  go_wp2_with fail
  go_ret2
  exact ⟨rfl, below_drewN (Below.refl _ _) 1⟩
def one16 : List Nat := [1, 0, 0, 0, 0, 0, 0, 0, 0, 0, 0, 0, 0, 0, 0, 0]
def z15 : List Nat := [0, 0, 0, 0, 0, 0, 0, 0, 0, 0, 0, 0, 0, 0, 0]
theorem one_by : By one16 := fun x hx => by simp [one16] at hx; omega
theorem z15_by : By z15 := fun x hx => by simp [z15] at hx; omega
theorem one_str : ({ data := #[1] } : ByteArray) ++ bsL z15 = bsL one16 := by decide +kernel
set_option maxHeartbeats 4000000 in
theorem keys_law (ad : Nat → Addr) (s0 : ByteArray) (w : World) (hS : SentF w 95 errGs ad) : Calls Tryd.prog 7 #[.string s0] w fun e w' => e = .returned (.bool true) ∧ Below w.heap.size w w' := by
  have HS := Lib.hid hS
  clear hS
  go_enter Tryd.func7, Tryd.ntmps7
  go_upto_region 3 with (go_at_call 8; refine (awake_ok _).mono ?_; rintro e w2 ⟨rfl, hb2⟩)
  have HS2 := Lib.hid (HS.out.same hb2)
  have HB2 := Lib.hid hb2
  clear HS hb2
  go_upto_region 4 with (go_at_call 14; refine (cut_ok s0 40 _).mono ?_; rintro e w2' ⟨rfl, rfl⟩)
  obtain ⟨s, hs⟩ : ∃ s, s = s0.extract 0 40 := ⟨_, rfl⟩
  have hsz : s.size ≤ 40 := by rw [hs, ByteArray.size_extract]; omega
  rw [← hs]
  clear hs
  by_cases hg : s.size = 16 ∨ s.size = 24 ∨ s.size = 32
  · obtain ⟨n, hn, hsn⟩ : ∃ n, (n = 4 ∨ n = 6 ∨ n = 8) ∧ s.size = 4 * n := by
      rcases hg with h | h | h
      · exact ⟨4, .inl rfl, h⟩
      · exact ⟨6, .inr (.inl rfl), h⟩
      · exact ⟨8, .inr (.inr rfl), h⟩
    obtain ⟨W, hW⟩ : ∃ W, W = (kexp subN n (natL s) (3 * n + 28)).1 := ⟨_, rfl⟩
    have hWb : By W := by rw [hW]; exact (kexp_by (fun x hx => sub_lt hx) _ (natL_by s) _).1
    have hnew := new_ok s n hn hsn w2
    have hrb := fun w' => rblock_ok s (bsL one16) n hn hsn (by rw [bsL_len]; rfl) w'
    rw [natL_bsL one_by, ← hW] at hrb
    simp only [rst_block hWb one_by (show 0 < n + 6 by omega)] at hrb
    rw [← hW] at hnew
    obtain ⟨X, hX⟩ : ∃ X, X = block sbT W (n + 6) one16 := ⟨_, rfl⟩
    have XB : Hid (By X) := Lib.hid (by rw [hX]; exact block_by hWb one_by _)
    have XL : Hid (X.length = 16) := Lib.hid (by rw [hX]; exact block_len _ _ _ _)
    have hblk : ∀ c t bw o cap w', Ci w' c t bw o (4 * (n + 7)) cap W → Calls Tryd.prog 11 #[.pointer (some ⟨c, 0, none⟩), .agg (b8 one16).toArray] w' fun e w'' => e = .returned (.agg (b8 X).toArray) ∧ Below w'.heap.size w' w'' := fun c t bw o cap w' h => by rw [hX]; exact block_ok c t bw o (4 * (n + 7)) cap (n + 6) W one16 rfl (by omega) rfl one_by w' h
    rw [← hX] at hrb
    have HNEW := Lib.hid hnew
    have HRB := Lib.hid hrb
    have HBLK := Lib.hid hblk
    have X8 : Hid ((b8 X).length = 16) := Lib.hid (by rw [b8_len]; exact XL.out)
    have hcond : ((s.size : Int) = 16 ∨ (s.size : Int) = 24 ∨ (s.size : Int) = 32) := by omega
    clear hW hWb hnew hrb hX hblk hn hsn HS2
    go_upto_region 5 with (go_at_call 9; refine HNEW.out.mono ?_; rintro e w4 ⟨c, t, bw, o, cap, rfl, hci, hb4⟩)
    go_cut [27] (fun v wx => v = .bool false ∧ w4 = wx)
    case first =>
      rcases hcond with h | h | h
      · have f1 : ((s.size : Int) != 16) = false := by rw [bne_eq_false_iff_eq]; exact h
        clear h
        go_wp2_with fail
        go_meet
        exact ⟨rfl, rfl⟩
      · have f1 : ((s.size : Int) != 16) = true := by rw [bne_iff_ne]; omega
        have f2 : ((s.size : Int) != 24) = false := by rw [bne_eq_false_iff_eq]; exact h
        clear h
        go_wp2_with fail
        go_meet
        exact ⟨rfl, rfl⟩
      · have f1 : ((s.size : Int) != 16) = true := by rw [bne_iff_ne]; omega
        have f2 : ((s.size : Int) != 24) = true := by rw [bne_iff_ne]; omega
        have f3 : ((s.size : Int) != 32) = false := by rw [bne_eq_false_iff_eq]; exact h
        clear h
        go_wp2_with fail
        go_meet
        exact ⟨rfl, rfl⟩
    case rest =>
    obtain ⟨rfl, rfl⟩ := hcut
    have HCI := Lib.hid hci
    have HB4 := Lib.hid (HB2.out.trans (hb4.mono HB2.out.size))
    clear hci hb4 hcond hg HNEW
    go_upto_region 9 with fail
    go_upto_region 10 with (first | (go_at_call 11; refine (HBLK.out c t bw o cap _ HCI.out).mono ?_; rintro e w5 ⟨rfl, hb5⟩; have A5 := Lib.hid (Blk.new w5 25 (b8 z16))) | (refine store_blk A5.out blk_size X8.out rfl (b8_one _) rfl rfl rfl rfl ?_))
    obtain ⟨w6, x6, hw6, hx6⟩ : ∃ w6 x6, w6 = (w5.alloc (.cells (b8 z16).toArray 25)).setRow w5.heap.size (b8 X).toArray ∧ x6 = w5.heap.size := ⟨_, _, rfl, rfl⟩
    have D : Below w4.heap.size w4 w6 := by rw [hw6]; exact hb5.trans ((below_row (below1 w5 _) _ _ (Nat.le_refl _)).mono hb5.size)
    have A6 : Blk w6 x6 25 (b8 X) := by rw [hw6, hx6]; exact A5.out.setRow _
    rw [show w5.alloc (Obj.cells #[Value.int .u8 0, Value.int .u8 0, Value.int .u8 0, Value.int .u8 0, Value.int .u8 0, Value.int .u8 0, Value.int .u8 0, Value.int .u8 0, Value.int .u8 0, Value.int .u8 0, Value.int .u8 0, Value.int .u8 0, Value.int .u8 0, Value.int .u8 0, Value.int .u8 0, Value.int .u8 0] 25) = w5.alloc (.cells (b8 z16).toArray 25) from rfl, ← hw6, ← hx6]
    have D6 := below_drewN (Below.refl w6.heap.size w6) 1
    have D46 := D.trans (D6.mono D.size)
    have HX6 := Lib.hid (A6.below D6 A6.lt)
    have HW6 := Lib.hid (HB4.out.trans (D46.mono HB4.out.size))
    clear hw6 hx6 D A6 D6 D46 A5 hb5 HB4 HCI HBLK
    have hst : Hid (∀ w', Keeps (fun _ => False) w6.drew w' → (convert 34 9 (.slice (some ⟨x6, 0, none⟩) 16 16)).run Tryd.prog w' = .ok (.string (bsL X)) w') := Lib.hid fun w' hw' => by
      have h := (hw'.blk HX6.out (fun h => h)).str XB.out (by rw [XL.out]; decide)
      rw [XL.out] at h
      exact h
    try simp only [Act.put]
    (refine Pl.wp_region_plan (fun _ => False) [(true, 0), (true, 1), (true, 2), (false, 3), (false, 4), (true, 5), (true, 6), (true, 7), (false, 8)] (by kernel_rfl) (by kernel_rfl) ?_)
    (refine Pl.plan_head (i := 0) rfl (fun K hK => ?_); refine Pl.plan_plain (.slice (some ⟨x6, 0, none⟩) 16 16) (by first | rfl | simp [Region.wanted, yielded]) (fun w' hw' => by go_simp) ?_; go_simp; (with_reducible apply hK); clear hK K)
    (refine Pl.plan_head (i := 1) rfl (fun K hK => ?_); refine Pl.plan_plain (.string (bsL X)) (by first | rfl | simp [Region.wanted, yielded]) (fun w' hw' => by have e := hst.out w' hw'; go_simp) ?_; go_simp; (with_reducible apply hK); clear hK K)
    (refine Pl.plan_head (i := 2) rfl (fun K hK => ?_); refine Pl.plan_plain (.string s) (by first | rfl | simp [Region.wanted, yielded]) (fun w' hw' => by go_simp) ?_; go_simp; (with_reducible apply hK); clear hK K)
    refine Pl.plan_sole (i := 3) rfl (fun w7 h7 Q7 hQ7 => ?_)
    have hmk : (Instr.makeSlice 34 (.int .i64 15) (.int .i64 15)).run Tryd.prog w7 = .ok (.slice (some ⟨w7.heap.size, 0, none⟩) 15 15) (w7.alloc (.cells (b8 z15).toArray 5)) := by kernel_rfl
    have Z7 := Lib.hid (Blk.new w7 5 (b8 z15))
    have K7 := Lib.hid (((Keeps.refl (fun _ => False) w6.drew).rw h7).alloc (.cells (b8 z15).toArray 5))
    clear h7
    go_wp2_with fail
    refine hQ7 _ _ K7.out ?_
    clear hQ7 Q7 hmk
    refine Pl.plan_sole (i := 4) rfl (fun w8 h8 Q8 hQ8 => ?_)
    have hz : (convert 34 9 (.slice (some ⟨w7.heap.size, 0, none⟩) 15 15)).run Tryd.prog w8 = .ok (.string (bsL z15)) w8 := (Z7.out.below h8 Z7.out.lt).str z15_by (by decide)
    have K8 := Lib.hid (K7.out.rw h8)
    clear h8 K7
    go_wp2_with fail
    refine hQ8 _ _ K8.out ?_
    clear hQ8 Q8 hz
    have HONE := Lib.hid one_str
    (refine Pl.plan_head (i := 5) rfl (fun K hK => ?_); refine Pl.plan_plain (.string (bsL one16)) (by first | rfl | simp [Region.wanted, yielded]) (fun w' hw' => by have e := HONE.out; have e1 : (bsL z15).size = 15 := (bsL_len z15); go_simp; all_goals (try simp [e]); all_goals (try omega)) ?_; go_simp; (with_reducible apply hK); clear hK K)
    (refine Pl.plan_head (i := 6) rfl (fun K hK => ?_); refine Pl.plan_call (.string (bsL X)) 12 #[.string s, .string (bsL one16)] (by first | rfl | simp [Region.wanted, yielded]) (fun w' => by go_simp) (fun w' hw' => HRB.out w') ?_; go_simp; (with_reducible apply hK); clear hK K)
    (refine Pl.plan_head (i := 7) rfl (fun K hK => ?_); refine Pl.plan_plain (.bool true) (by first | rfl | simp [Region.wanted, yielded]) (fun w' hw' => by go_simp) ?_; go_simp; (with_reducible apply hK); clear hK K)
    refine Pl.plan_sole (i := 8) rfl (fun w9 h9 Q9 hQ9 => ?_)
    have K9 := Lib.hid (K8.out.rw h9)
    clear h9
    go_wp2_with fail
    refine hQ9 _ _ K9.out ?_
    clear hQ9 Q9
    refine Pl.plan_nil (fun w10 h10 => ?_)
    have HW10 := Lib.hid (HW6.out.trans (((K9.out.rw h10).below (Nat.le_refl _) (fun _ _ h => h)).mono HW6.out.size))
    go_wp2_with fail
    go_ret
    exact ⟨rfl, HW10.out⟩
  · have h1 : s.size ≠ 16 := fun h => hg (.inl h)
    have h2 : s.size ≠ 24 := fun h => hg (.inr (.inl h))
    have h3 : s.size ≠ 32 := fun h => hg (.inr (.inr h))
    have hnb := new_bad ad s h1 h2 h3 (by omega) w2 HS2.out
    have HNB := Lib.hid hnb
    have d1 : ((s.size : Int) == 16) = false := by rw [beq_eq_false_iff_ne]; omega
    have d2 : ((s.size : Int) == 24) = false := by rw [beq_eq_false_iff_ne]; omega
    have d3 : ((s.size : Int) == 32) = false := by rw [beq_eq_false_iff_ne]; omega
    have f1 : ((s.size : Int) != 16) = true := by rw [bne_iff_ne]; omega
    have f2 : ((s.size : Int) != 24) = true := by rw [bne_iff_ne]; omega
    have f3 : ((s.size : Int) != 32) = true := by rw [bne_iff_ne]; omega
    clear hnb h1 h2 h3 hg
    go_upto_region 5 with (go_at_call 9; refine HNB.out.mono ?_; rintro e w4 ⟨rfl, hb4⟩)
    have HS4 := Lib.hid (HS2.out.same hb4)
    have HB4 := Lib.hid (HB2.out.trans (hb4.mono HB2.out.size))
    clear HS2 hb4 HNB
    go_wp2_with (go_at_call 17; refine (code_ok ad _ HS4.out 9 (by decide)).mono ?_; rintro e w5 ⟨rfl, rfl⟩)
    go_ret
    exact ⟨rfl, HB4.out⟩
end Go.Proofs.YteleedcpepifjaaDoor
