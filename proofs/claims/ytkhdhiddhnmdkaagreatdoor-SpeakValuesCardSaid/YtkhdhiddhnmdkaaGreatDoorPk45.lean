/-
SpeakValues: what a word makes of its parts' values.
-/
import Derived.Test.YtkhdhiddhnmdkaaGreatDoorPk39
import Derived.Test.YtkhdhiddhnmdkaaGreatDoorPk44
namespace Go.Proofs.YtkhdhiddhnmdkaaGreatDoor
open Go.RowKit Sha Cha Tm
set_option maxRecDepth 100000
namespace Tv
section
variable (T F Bg : List Int) (Or : List Nat)
def btK (x : S) : S := Eds.encP (Ed.smul (KN ((S512 T F (num T F x)).take 32)) Ed.B)
def btS (x y : S) : S := multB (num T F x) (multB (num T F y) nineB)
def btG (x y : S) : S := Wob.tx (Eds.sgnL T F (num T F x) y) ++ Wob.tx y
def btP (x y : S) : S := Wob.tx x ++ Wob.tx y
/-- what a word makes of values -/
def bt (k : S) (l : List S) : S :=
  if k = kHash then num T F (l.getD 0 []) else if k = kPoint then multB (num T F (l.getD 0 [])) nineB else if k = kKey then btK T F (l.getD 0 [])
  else if k = kShare then btS T F (l.getD 0 []) (l.getD 1 []) else if k = kSign then btG T F (l.getD 0 []) (l.getD 1 []) else if k = kSeal then sld T F Bg Or (l.getD 0 []) (l.getD 1 []) else btP (l.getD 0 []) (l.getD 1 [])
end
theorem str_of {w : World} {b : Nat} {t : TypeId} {L : List UInt8} {n : Nat} (h : Blk w b t (bvals L)) (hn : n = L.length) : (convert 50 9 (.slice (some ⟨b, 0, none⟩) n n)).run Tryz.prog w = .ok (.string (by8 L)) w := by
  have := Eds.conv_mid h 0 n n (by omega)
  exact this
theorem run_alloc_64 (w : World) : (Instr.alloc 55 true (.tuple #[])).run Tryz.prog w = .ok (.pointer (some ⟨w.heap.size, 0, none⟩)) (w.alloc (.cells (bvals (List.replicate 64 0)).toArray 55)) := by kernel_rfl
theorem aliveB {w w' : World} (h : Keeps (fun _ => False) w.drew w') : Below w.heap.size w w' := (below_drewN (Below.refl _ _) 1).trans (h.below (Nat.le_refl _) (fun _ _ h => h))
set_option maxHeartbeats 4000000 in
theorem built_hash {T F Bg : List Int} {Or : List Nat} (wc : World) (v : Value) (x : S) (w : World) (hG : VG T F Bg Or w) (hl : SL wc w v [x]) (hx : x.length ≤ 90000) :
    Calls Tryz.prog 12 #[.string (by8 kHash), v] w fun e w' => e = .returned (.string (by8 (num T F x))) ∧ Below w.heap.size w w' := by
  obtain ⟨g, off, cap, rfl, hcap, -, hgl, hc⟩ := hl.cell (Nat.le_of_ble_eq_true rfl)
  have c0 := hc 0 x rfl
  rw [Nat.add_zero] at c0
  clear hc hl
  have EQ0 : ((by8 kHash).toList == [104, 97, 115, 104]) = true := by decide +kernel
  have HC := Lib.hid (fun bk ty w' (hb : Below w.heap.size w w') (hB : Blk w' bk ty [.string (by8 x)]) => num_at hG.e.t hG.e.g bk ty x (by omega) hb hB)
  have LN := num_len hG.e.t x
  generalize num T F x = r at *
  clear hG
  go_enter Tryz.func12, Tryz.ntmps12
  go_wp2_with fail
  have N1 : Below w.heap.size w (w.alloc (.cells #[.string (by8 x)] 9)) := below1 _ _
  refine (HC.out w.heap.size _ _ N1 (Blk.new w _ [.string (by8 x)])).mono ?_
  rintro e w2 ⟨rfl, hb⟩
  have R2 : Below w.heap.size w w2 := Rw.trans N1 hb
  clear hb N1 HC
  go_upto_region 4 with (refine store_ar (Blk.new w2 tB (bvals (List.replicate 32 0))) rfl LN rfl rfl (by go_simp) (by go_simp) ?_)
  refine wp_gen (fun wx => Blk wx w2.heap.size tB (bvals r) ∧ Below w.heap.size w wx) ⟨(Blk.new w2 tB (bvals (List.replicate 32 0))).setRow _, below_row (R2.alloc R2.size _) _ _ R2.size⟩ ?_
  rintro w3 ⟨O3, B3⟩
  have CV := str_of (n := 32) O3 LN.symm
  go_wp2_with fail
  go_ret
  exact ⟨rfl, B3⟩
set_option maxHeartbeats 4000000 in
theorem built_point {T F Bg : List Int} {Or : List Nat} (wc : World) (v : Value) (x : S) (w : World) (hG : VG T F Bg Or w) (hl : SL wc w v [x]) (hx : x.length ≤ 90000) :
    Calls Tryz.prog 12 #[.string (by8 kPoint), v] w fun e w' => e = .returned (.string (by8 (multB (num T F x) nineB))) ∧ Below w.heap.size w w' := by
  obtain ⟨g, off, cap, rfl, hcap, -, hgl, hc⟩ := hl.cell (Nat.le_of_ble_eq_true rfl)
  have c0 := hc 0 x rfl
  rw [Nat.add_zero] at c0
  clear hc hl
  have EQ0 : ((by8 kPoint).toList == [104, 97, 115, 104]) = false := by decide +kernel
  have EQ1 : ((by8 kPoint).toList == [112, 111, 105, 110, 116]) = true := by decide +kernel
  have NC := Lib.hid (number_ok x w hG.e.t hG.e.g (by omega))
  have LN := num_len hG.e.t x
  have BC := Lib.hid (fun w' (_ : Below w.heap.size w w') => base_ok (num T F x) LN w')
  have LR := multB_len (num T F x) nineB
  generalize multB (num T F x) nineB = r at *
  generalize num T F x = n at *
  clear hG
  go_enter Tryz.func12, Tryz.ntmps12
  go_wp2_with fail
  refine NC.out.mono ?_
  rintro e w1 ⟨rfl, hb1⟩
  go_wp2_with fail
  refine (BC.out w1 hb1).mono ?_
  rintro e w2 ⟨rfl, hb⟩
  have R2 : Below w.heap.size w w2 := Rw.trans hb1 hb
  clear hb hb1 BC NC
  go_upto_region 7 with (refine store_ar (Blk.new w2 tB (bvals (List.replicate 32 0))) rfl LR rfl rfl (by go_simp) (by go_simp) ?_)
  refine wp_gen (fun wx => Blk wx w2.heap.size tB (bvals r) ∧ Below w.heap.size w wx) ⟨(Blk.new w2 tB (bvals (List.replicate 32 0))).setRow _, below_row (R2.alloc R2.size _) _ _ R2.size⟩ ?_
  rintro w3 ⟨O3, B3⟩
  have CV := str_of (n := 32) O3 LR.symm
  go_wp2_with fail
  go_ret
  exact ⟨rfl, B3⟩
set_option maxHeartbeats 4000000 in
theorem built_key {T F Bg : List Int} {Or : List Nat} (wc : World) (v : Value) (x : S) (w : World) (hG : VG T F Bg Or w) (hl : SL wc w v [x]) (hx : x.length ≤ 90000) :
    Calls Tryz.prog 12 #[.string (by8 kKey), v] w fun e w' => e = .returned (.string (by8 (btK T F x))) ∧ Below w.heap.size w w' := by
  obtain ⟨g, off, cap, rfl, hcap, -, hgl, hc⟩ := hl.cell (Nat.le_of_ble_eq_true rfl)
  have c0 := hc 0 x rfl
  rw [Nat.add_zero] at c0
  clear hc hl
  have EQ0 : ((by8 kKey).toList == [104, 97, 115, 104]) = false := by decide +kernel
  have EQ1 : ((by8 kKey).toList == [112, 111, 105, 110, 116]) = false := by decide +kernel
  have EQ2 : ((by8 kKey).toList == [107, 101, 121]) = true := by decide +kernel
  have NC := Lib.hid (number_ok x w hG.e.t hG.e.g (by omega))
  have LN := num_len hG.e.t x
  have BC : Hid (∀ w', Below w.heap.size w w' → Calls Tryz.prog 21 #[.agg (bvals (num T F x)).toArray] w' fun e w'' => e = .returned (.agg (bvals (btK T F x)).toArray) ∧ Below w'.heap.size w' w'') := Lib.hid (fun w' hb => Eds.key_ok (num T F x) w' LN (hG.below hb).e.t (hG.below hb).e.g _ rfl)
  have LR : (btK T F x).length = 32 := Eds.encP_len _
  generalize btK T F x = r at *
  generalize num T F x = n at *
  clear hG
  go_enter Tryz.func12, Tryz.ntmps12
  go_wp2_with fail
  refine NC.out.mono ?_
  rintro e w1 ⟨rfl, hb1⟩
  go_wp2_with fail
  refine (BC.out w1 hb1).mono ?_
  rintro e w2 ⟨rfl, hb⟩
  have R2 : Below w.heap.size w w2 := Rw.trans hb1 hb
  clear hb hb1 BC NC
  go_upto_region 10 with (refine store_ar (Blk.new w2 tB (bvals (List.replicate 32 0))) rfl LR rfl rfl (by go_simp) (by go_simp) ?_)
  refine wp_gen (fun wx => Blk wx w2.heap.size tB (bvals r) ∧ Below w.heap.size w wx) ⟨(Blk.new w2 tB (bvals (List.replicate 32 0))).setRow _, below_row (R2.alloc R2.size _) _ _ R2.size⟩ ?_
  rintro w3 ⟨O3, B3⟩
  have CV := str_of (n := 32) O3 LR.symm
  go_wp2_with fail
  go_ret
  exact ⟨rfl, B3⟩
set_option maxHeartbeats 4000000 in
theorem built_share {T F Bg : List Int} {Or : List Nat} (wc : World) (v : Value) (x y : S) (w : World) (hG : VG T F Bg Or w) (hl : SL wc w v [x, y]) (hx : x.length ≤ 90000) (hy : y.length ≤ 90000) :
    Calls Tryz.prog 12 #[.string (by8 kShare), v] w fun e w' => e = .returned (.string (by8 (btS T F x y))) ∧ Below w.heap.size w w' := by
  obtain ⟨g, off, cap, rfl, hcap, -, hgl, hc⟩ := hl.cell (Nat.le_of_ble_eq_true rfl)
  have c0 := hc 0 x rfl
  rw [Nat.add_zero] at c0
  have c1 := hc 1 y rfl
  clear hc hl
  have EQ0 : ((by8 kShare).toList == [104, 97, 115, 104]) = false := by decide +kernel
  have EQ1 : ((by8 kShare).toList == [112, 111, 105, 110, 116]) = false := by decide +kernel
  have EQ2 : ((by8 kShare).toList == [107, 101, 121]) = false := by decide +kernel
  have EQ3 : ((by8 kShare).toList == [115, 104, 97, 114, 101]) = true := by decide +kernel
  have NX := Lib.hid (fun w' (hb : Below w.heap.size w w') => number_ok x w' (hG.below hb).e.t (hG.below hb).e.g (by omega))
  have NY := Lib.hid (fun w' (hb : Below w.heap.size w w') => number_ok y w' (hG.below hb).e.t (hG.below hb).e.g (by omega))
  have LX := num_len hG.e.t x
  have LY := num_len hG.e.t y
  have BC := fun w' => base_ok (num T F y) LY w'
  have MC := fun w' => multC (num T F x) (multB (num T F y) nineB) LX (multB_len _ _) w'
  have LR := multB_len (num T F x) (multB (num T F y) nineB)
  unfold btS
  generalize multB (num T F x) (multB (num T F y) nineB) = r at *
  generalize okB (num T F x) (multB (num T F y) nineB) = ok at *
  generalize multB (num T F y) nineB = py at *
  generalize num T F x = nx at *
  generalize num T F y = ny at *
  clear hG
  go_enter Tryz.func12, Tryz.ntmps12
  go_upto_region 12 with fail
  have D0 : w.drew.cell? ⟨g, off, none⟩ = some (.string (by8 x)) := c0
  have D1 : w.drew.cell? ⟨g, off + 1, none⟩ = some (.string (by8 y)) := c1
  have hgd : g < w.drew.heap.size := hgl
  refine Pm.wp_region_late (fun _ => False) 13 [(true, 0), (true, 1), (true, 2), (true, 3), (true, 4), (true, 5), (true, 6), (true, 7), (true, 8), (true, 9), (true, 10), (true, 11), (true, 12)] [(false, 14), (true, 15)] Eds.run_alloc_b rfl rfl rfl rfl (by kernel_rfl) (by kernel_rfl) ?_
  (refine Pm.head (i := 0) rfl (fun K hK => ?_); refine Pl.plan_plain (.slice (some ⟨g, off, none⟩) 2 cap) (by first | rfl | simp [Region.wanted, yielded]) (fun w' hw' => by go_simp) ?_; go_simp; (with_reducible apply hK); clear hK K)
  (refine Pm.head (i := 1) rfl (fun K hK => ?_); refine Pl.plan_plain (.pointer (some ⟨g, off, none⟩)) (by first | rfl | simp [Region.wanted, yielded]) (fun w' hw' => by go_simp) ?_; go_simp; (with_reducible apply hK); clear hK K)
  (refine Pm.head (i := 2) rfl (fun K hK => ?_); refine Pl.plan_plain (.string (by8 x)) (by first | rfl | simp [Region.wanted, yielded]) (fun w' hw' => by have h := (hw'.cell (p := ⟨g, off, none⟩) D0 (fun h => h)); go_simp; try simp [h]) ?_; go_simp; (with_reducible apply hK); clear hK K)
  (refine Pm.head (i := 3) rfl (fun K hK => ?_); refine Pl.plan_call (.agg (bvals nx).toArray) 20 #[.string (by8 x)] (by first | rfl | simp [Region.wanted, yielded]) (fun w' => by go_simp) (fun w' hw' => NX.out w' (aliveB hw')) ?_; go_simp; (with_reducible apply hK); clear hK K)
  (refine Pm.head (i := 4) rfl (fun K hK => ?_); refine Pl.plan_plain (.slice (some ⟨g, off, none⟩) 2 cap) (by first | rfl | simp [Region.wanted, yielded]) (fun w' hw' => by go_simp) ?_; go_simp; (with_reducible apply hK); clear hK K)
  (refine Pm.head (i := 5) rfl (fun K hK => ?_); refine Pl.plan_plain (.pointer (some ⟨g, off + 1, none⟩)) (by first | rfl | simp [Region.wanted, yielded]) (fun w' hw' => by go_simp) ?_; go_simp; (with_reducible apply hK); clear hK K)
  (refine Pm.head (i := 6) rfl (fun K hK => ?_); refine Pl.plan_plain (.string (by8 y)) (by first | rfl | simp [Region.wanted, yielded]) (fun w' hw' => by have h := (hw'.cell (p := ⟨g, off + 1, none⟩) D1 (fun h => h)); go_simp; try simp [h]) ?_; go_simp; (with_reducible apply hK); clear hK K)
  (refine Pm.head (i := 7) rfl (fun K hK => ?_); refine Pl.plan_call (.agg (bvals ny).toArray) 20 #[.string (by8 y)] (by first | rfl | simp [Region.wanted, yielded]) (fun w' => by go_simp) (fun w' hw' => NY.out w' (aliveB hw')) ?_; go_simp; (with_reducible apply hK); clear hK K)
  (refine Pm.head (i := 8) rfl (fun K hK => ?_); refine Pl.plan_call (.agg (bvals py).toArray) 19 #[.agg (bvals ny).toArray] (by first | rfl | simp [Region.wanted, yielded]) (fun w' => by go_simp) (fun w' hw' => BC w') ?_; go_simp; (with_reducible apply hK); clear hK K)
  (refine Pm.head (i := 9) rfl (fun K hK => ?_); refine Pl.plan_call (.tuple #[.agg (bvals r).toArray, .bool ok]) 22 #[.agg (bvals nx).toArray, .agg (bvals py).toArray] (by first | rfl | simp [Region.wanted, yielded]) (fun w' => by go_simp) (fun w' hw' => MC w') ?_; go_simp; (with_reducible apply hK); clear hK K)
  (refine Pm.head (i := 10) rfl (fun K hK => ?_); refine Pl.plan_plain (.tuple #[.agg (bvals r).toArray, .bool ok]) (by first | rfl | simp [Region.wanted, yielded]) (fun w' hw' => by go_simp) ?_; go_simp; (with_reducible apply hK); clear hK K)
  (refine Pm.head (i := 11) rfl (fun K hK => ?_); refine Pl.plan_plain (.agg (bvals r).toArray) (by first | rfl | simp [Region.wanted, yielded]) (fun w' hw' => by go_simp) ?_; go_simp; (with_reducible apply hK); clear hK K)
  (refine Pm.head (i := 12) rfl (fun K hK => ?_); refine Pl.plan_plain (.bool ok) (by first | rfl | simp [Region.wanted, yielded]) (fun w' hw' => by go_simp) ?_; go_simp; (with_reducible apply hK); clear hK K)
  refine Pm.nil (fun w6 h6 => ?_)
  intro c w7 h7 hc OC
  refine Pl.plan_sole (i := 14) rfl (fun w8 h8 Q hQ => ?_)
  have OC8 := OC.below h8 OC.lt
  have R8 : Rw w.drew w8 := Rw.trans (Rw.trans h6 h7) h8
  refine store_ar OC8 rfl LR rfl rfl (by go_simp) (by go_simp) ?_
  unfold wpList
  have R9 : Rw w.drew (w8.setRow c (bvals r).toArray) := below_row R8 _ _ hc
  refine hQ _ _ (Keeps.of_below R9) ?_
  clear hQ Q
  go_simp
  (refine Pl.plan_head (i := 15) rfl (fun K hK => ?_); refine Pl.plan_plain (.bool ok) (by first | rfl | simp [Region.wanted, yielded]) (fun w' hw' => by go_simp) ?_; go_simp; (with_reducible apply hK); clear hK K)
  refine Pl.plan_nil (fun wz hz => ?_)
  have BZ : Below w.heap.size w wz := (below_drewN (Below.refl _ _) 1).trans (Rw.trans R9 hz)
  have OZ := (OC8.setRow (bvals r)).below hz (OC8.setRow (bvals r)).lt
  go_simp
  go_upto_region 13 with fail
  have CV := str_of (n := 32) OZ LR.symm
  clear OC8 R8 R9 hz OC h8 h7 h6 OZ
  go_wp2_with fail
  go_ret
  exact ⟨rfl, BZ⟩
set_option maxHeartbeats 4000000 in
theorem built_sign {T F Bg : List Int} {Or : List Nat} (wc : World) (v : Value) (x y : S) (w : World) (hG : VG T F Bg Or w) (hl : SL wc w v [x, y]) (hx : x.length ≤ 90000) (hy : y.length ≤ 90000) :
    Calls Tryz.prog 12 #[.string (by8 kSign), v] w fun e w' => e = .returned (.string (by8 (btG T F x y))) ∧ Below w.heap.size w w' := by
  obtain ⟨g, off, cap, rfl, hcap, -, hgl, hc⟩ := hl.cell (Nat.le_of_ble_eq_true rfl)
  have c0 := hc 0 x rfl
  rw [Nat.add_zero] at c0
  have c1 := hc 1 y rfl
  clear hc hl
  have EQ0 : ((by8 kSign).toList == [104, 97, 115, 104]) = false := by decide +kernel
  have EQ1 : ((by8 kSign).toList == [112, 111, 105, 110, 116]) = false := by decide +kernel
  have EQ2 : ((by8 kSign).toList == [107, 101, 121]) = false := by decide +kernel
  have EQ3 : ((by8 kSign).toList == [115, 104, 97, 114, 101]) = false := by decide +kernel
  have EQ4 : ((by8 kSign).toList == [115, 105, 103, 110]) = true := by decide +kernel
  have NX := Lib.hid (fun w' (hb : Below w.heap.size w w') => number_ok x w' (hG.below hb).e.t (hG.below hb).e.g (by omega))
  have LX := num_len hG.e.t x
  have SC := Lib.hid (fun w' (hb : Below w.heap.size w w') => Eds.esign_ok (num T F x) y w' LX (by omega) (hG.below hb).e)
  have LR := Eds.sgnL_len T F (num T F x) y
  unfold btG
  generalize Eds.sgnL T F (num T F x) y = r at *
  generalize num T F x = nx at *
  have TC := Lib.hid (fun w' => Wob.two_ok r y w' (by omega) (by omega))
  generalize Wob.tx r ++ Wob.tx y = out at *
  clear hG
  go_enter Tryz.func12, Tryz.ntmps12
  go_upto_region 15 with fail
  have D0 : w.drew.cell? ⟨g, off, none⟩ = some (.string (by8 x)) := c0
  have D1 : w.drew.cell? ⟨g, off + 1, none⟩ = some (.string (by8 y)) := c1
  have hgd : g < w.drew.heap.size := hgl
  refine Pm.wp_region_late (fun _ => False) 8 [(true, 0), (true, 1), (true, 2), (true, 3), (true, 4), (true, 5), (true, 6), (true, 7)] [(false, 9)] run_alloc_64 rfl rfl rfl rfl (by kernel_rfl) (by kernel_rfl) ?_
  (refine Pm.head (i := 0) rfl (fun K hK => ?_); refine Pl.plan_plain (.slice (some ⟨g, off, none⟩) 2 cap) (by first | rfl | simp [Region.wanted, yielded]) (fun w' hw' => by go_simp) ?_; go_simp; (with_reducible apply hK); clear hK K)
  (refine Pm.head (i := 1) rfl (fun K hK => ?_); refine Pl.plan_plain (.pointer (some ⟨g, off, none⟩)) (by first | rfl | simp [Region.wanted, yielded]) (fun w' hw' => by go_simp) ?_; go_simp; (with_reducible apply hK); clear hK K)
  (refine Pm.head (i := 2) rfl (fun K hK => ?_); refine Pl.plan_plain (.string (by8 x)) (by first | rfl | simp [Region.wanted, yielded]) (fun w' hw' => by have h := (hw'.cell (p := ⟨g, off, none⟩) D0 (fun h => h)); go_simp; try simp [h]) ?_; go_simp; (with_reducible apply hK); clear hK K)
  (refine Pm.head (i := 3) rfl (fun K hK => ?_); refine Pl.plan_call (.agg (bvals nx).toArray) 20 #[.string (by8 x)] (by first | rfl | simp [Region.wanted, yielded]) (fun w' => by go_simp) (fun w' hw' => NX.out w' (aliveB hw')) ?_; go_simp; (with_reducible apply hK); clear hK K)
  (refine Pm.head (i := 4) rfl (fun K hK => ?_); refine Pl.plan_plain (.slice (some ⟨g, off, none⟩) 2 cap) (by first | rfl | simp [Region.wanted, yielded]) (fun w' hw' => by go_simp) ?_; go_simp; (with_reducible apply hK); clear hK K)
  (refine Pm.head (i := 5) rfl (fun K hK => ?_); refine Pl.plan_plain (.pointer (some ⟨g, off + 1, none⟩)) (by first | rfl | simp [Region.wanted, yielded]) (fun w' hw' => by go_simp) ?_; go_simp; (with_reducible apply hK); clear hK K)
  (refine Pm.head (i := 6) rfl (fun K hK => ?_); refine Pl.plan_plain (.string (by8 y)) (by first | rfl | simp [Region.wanted, yielded]) (fun w' hw' => by have h := (hw'.cell (p := ⟨g, off + 1, none⟩) D1 (fun h => h)); go_simp; try simp [h]) ?_; go_simp; (with_reducible apply hK); clear hK K)
  (refine Pm.head (i := 7) rfl (fun K hK => ?_); refine Pl.plan_call (.agg (bvals r).toArray) 23 #[.agg (bvals nx).toArray, .string (by8 y)] (by first | rfl | simp [Region.wanted, yielded]) (fun w' => by go_simp) (fun w' hw' => SC.out w' (aliveB hw')) ?_; go_simp; (with_reducible apply hK); clear hK K)
  refine Pm.nil (fun w6 h6 => ?_)
  intro c w7 h7 hc OC
  refine Pl.plan_sole (i := 9) rfl (fun w8 h8 Q hQ => ?_)
  have OC8 := OC.below h8 OC.lt
  have R8 : Rw w.drew w8 := Rw.trans (Rw.trans h6 h7) h8
  have L64 : (bvals r).length = 64 := by rw [bvals_len]; exact LR
  refine store_blk (n := 64) (cs := bvals r) OC8 arr64s_size L64 rfl (bone _) rfl rfl (by go_simp) (by go_simp) ?_
  unfold wpList
  have R9 : Rw w.drew (w8.setRow c (bvals r).toArray) := below_row R8 _ _ hc
  refine hQ _ _ (Keeps.of_below R9) ?_
  clear hQ Q
  go_simp
  refine Pl.plan_nil (fun wz hz => ?_)
  have RZ := Rw.trans R9 hz
  have OZ := (OC8.setRow (bvals r)).below hz (OC8.setRow (bvals r)).lt
  have BZ : Below w.heap.size w wz := (below_drewN (Below.refl _ _) 1).trans RZ
  have EZ := (Keeps.of_below (F := fun _ => False) RZ).cell (p := ⟨g, off + 1, none⟩) D1 (fun h => h)
  go_simp
  go_upto_region 16 with fail
  clear OC8 R8 R9 hz OC h8 h7 h6 RZ D0 D1 c0 c1
  have OD : Blk wz.drew c 55 (bvals r) := OZ
  have ED : wz.drew.cell? ⟨g, off + 1, none⟩ = some (.string (by8 y)) := EZ
  (refine Pl.wp_region_plan (fun _ => False) [(true, 0), (true, 1), (true, 2), (true, 3), (true, 4), (true, 5), (true, 6)] (by kernel_rfl) (by kernel_rfl) ?_)
  (refine Pl.plan_head (i := 0) rfl (fun K hK => ?_); refine Pl.plan_plain (.slice (some ⟨c, 0, none⟩) 64 64) (by first | rfl | simp [Region.wanted, yielded]) (fun w' hw' => by go_simp) ?_; go_simp; (with_reducible apply hK); clear hK K)
  (refine Pl.plan_head (i := 1) rfl (fun K hK => ?_); refine Pl.plan_plain (.string (by8 r)) (by first | rfl | simp [Region.wanted, yielded]) (fun w' hw' => by have h := str_of (n := 64) (hw'.blk OD (fun h => h)) LR.symm; go_simp; try simp [h]) ?_; go_simp; (with_reducible apply hK); clear hK K)
  (refine Pl.plan_head (i := 2) rfl (fun K hK => ?_); refine Pl.plan_plain (.slice (some ⟨g, off, none⟩) 2 cap) (by first | rfl | simp [Region.wanted, yielded]) (fun w' hw' => by go_simp) ?_; go_simp; (with_reducible apply hK); clear hK K)
  (refine Pl.plan_head (i := 3) rfl (fun K hK => ?_); refine Pl.plan_plain (.pointer (some ⟨g, off + 1, none⟩)) (by first | rfl | simp [Region.wanted, yielded]) (fun w' hw' => by go_simp) ?_; go_simp; (with_reducible apply hK); clear hK K)
  (refine Pl.plan_head (i := 4) rfl (fun K hK => ?_); refine Pl.plan_plain (.string (by8 y)) (by first | rfl | simp [Region.wanted, yielded]) (fun w' hw' => by have h := (hw'.cell (p := ⟨g, off + 1, none⟩) ED (fun h => h)); go_simp; try simp [h]) ?_; go_simp; (with_reducible apply hK); clear hK K)
  (refine Pl.plan_head (i := 5) rfl (fun K hK => ?_); refine Pl.plan_call (.string (by8 out)) 24 #[.string (by8 r), .string (by8 y)] (by first | rfl | simp [Region.wanted, yielded]) (fun w' => by go_simp) (fun w' hw' => TC.out w') ?_; go_simp; (with_reducible apply hK); clear hK K)
  (refine Pl.plan_head (i := 6) rfl (fun K hK => ?_); refine Pl.plan_plain (.string (by8 out)) (by first | rfl | simp [Region.wanted, yielded]) (fun w' hw' => by go_simp) ?_; go_simp; (with_reducible apply hK); clear hK K)
  refine Pl.plan_nil (fun w9 h9 => ?_)
  have B9 : Below w.heap.size w w9 := BZ.trans ((Rw.trans (below_drewN (Below.refl _ _) 1) h9).mono BZ.size)
  go_simp
  go_wp2_with fail
  go_ret
  exact ⟨rfl, B9⟩
set_option maxHeartbeats 4000000 in
theorem built_seal {T F Bg : List Int} {Or : List Nat} (wc : World) (v : Value) (x y : S) (w : World) (hG : VG T F Bg Or w) (hl : SL wc w v [x, y]) (hx : x.length ≤ 90000) (hy : y.length ≤ 90000) :
    Calls Tryz.prog 12 #[.string (by8 kSeal), v] w fun e w' => e = .returned (.string (by8 (sld T F Bg Or x y))) ∧ Below w.heap.size w w' := by
  obtain ⟨g, off, cap, rfl, hcap, -, hgl, hc⟩ := hl.cell (Nat.le_of_ble_eq_true rfl)
  have c0 := hc 0 x rfl
  rw [Nat.add_zero] at c0
  have c1 := hc 1 y rfl
  clear hc hl
  have EQ0 : ((by8 kSeal).toList == [104, 97, 115, 104]) = false := by decide +kernel
  have EQ1 : ((by8 kSeal).toList == [112, 111, 105, 110, 116]) = false := by decide +kernel
  have EQ2 : ((by8 kSeal).toList == [107, 101, 121]) = false := by decide +kernel
  have EQ3 : ((by8 kSeal).toList == [115, 104, 97, 114, 101]) = false := by decide +kernel
  have EQ4 : ((by8 kSeal).toList == [115, 105, 103, 110]) = false := by decide +kernel
  have EQ5 : ((by8 kSeal).toList == [115, 101, 97, 108]) = true := by decide +kernel
  have SC := Lib.hid (fun w' (hb : Below w.heap.size w w') => sealed_ok x y w' (hG.below hb) (by omega) hy)
  generalize sld T F Bg Or x y = out at *
  clear hG
  go_enter Tryz.func12, Tryz.ntmps12
  go_upto_region 18 with fail
  have D0 : w.drew.cell? ⟨g, off, none⟩ = some (.string (by8 x)) := c0
  have D1 : w.drew.cell? ⟨g, off + 1, none⟩ = some (.string (by8 y)) := c1
  have hgd : g < w.drew.heap.size := hgl
  (refine Pl.wp_region_plan (fun _ => False) [(true, 0), (true, 1), (true, 2), (true, 3), (true, 4), (true, 5), (true, 6), (true, 7)] (by kernel_rfl) (by kernel_rfl) ?_)
  (refine Pl.plan_head (i := 0) rfl (fun K hK => ?_); refine Pl.plan_plain (.slice (some ⟨g, off, none⟩) 2 cap) (by first | rfl | simp [Region.wanted, yielded]) (fun w' hw' => by go_simp) ?_; go_simp; (with_reducible apply hK); clear hK K)
  (refine Pl.plan_head (i := 1) rfl (fun K hK => ?_); refine Pl.plan_plain (.pointer (some ⟨g, off, none⟩)) (by first | rfl | simp [Region.wanted, yielded]) (fun w' hw' => by go_simp) ?_; go_simp; (with_reducible apply hK); clear hK K)
  (refine Pl.plan_head (i := 2) rfl (fun K hK => ?_); refine Pl.plan_plain (.string (by8 x)) (by first | rfl | simp [Region.wanted, yielded]) (fun w' hw' => by have h := (hw'.cell (p := ⟨g, off, none⟩) D0 (fun h => h)); go_simp; try simp [h]) ?_; go_simp; (with_reducible apply hK); clear hK K)
  (refine Pl.plan_head (i := 3) rfl (fun K hK => ?_); refine Pl.plan_plain (.slice (some ⟨g, off, none⟩) 2 cap) (by first | rfl | simp [Region.wanted, yielded]) (fun w' hw' => by go_simp) ?_; go_simp; (with_reducible apply hK); clear hK K)
  (refine Pl.plan_head (i := 4) rfl (fun K hK => ?_); refine Pl.plan_plain (.pointer (some ⟨g, off + 1, none⟩)) (by first | rfl | simp [Region.wanted, yielded]) (fun w' hw' => by go_simp) ?_; go_simp; (with_reducible apply hK); clear hK K)
  (refine Pl.plan_head (i := 5) rfl (fun K hK => ?_); refine Pl.plan_plain (.string (by8 y)) (by first | rfl | simp [Region.wanted, yielded]) (fun w' hw' => by have h := (hw'.cell (p := ⟨g, off + 1, none⟩) D1 (fun h => h)); go_simp; try simp [h]) ?_; go_simp; (with_reducible apply hK); clear hK K)
  (refine Pl.plan_head (i := 6) rfl (fun K hK => ?_); refine Pl.plan_call (.string (by8 out)) 25 #[.string (by8 x), .string (by8 y)] (by first | rfl | simp [Region.wanted, yielded]) (fun w' => by go_simp) (fun w' hw' => SC.out w' (aliveB hw')) ?_; go_simp; (with_reducible apply hK); clear hK K)
  (refine Pl.plan_head (i := 7) rfl (fun K hK => ?_); refine Pl.plan_plain (.string (by8 out)) (by first | rfl | simp [Region.wanted, yielded]) (fun w' hw' => by go_simp) ?_; go_simp; (with_reducible apply hK); clear hK K)
  refine Pl.plan_nil (fun w9 h9 => ?_)
  have B9 : Below w.heap.size w w9 := Rw.trans (below_drewN (Below.refl _ _) 1) h9
  go_simp
  go_wp2_with fail
  go_ret
  exact ⟨rfl, B9⟩
set_option maxHeartbeats 4000000 in
theorem built_pair (wc : World) (v : Value) (x y : S) (w : World) (hl : SL wc w v [x, y]) (hx : x.length ≤ 90000) (hy : y.length ≤ 90000) :
    Calls Tryz.prog 12 #[.string (by8 kPair), v] w fun e w' => e = .returned (.string (by8 (btP x y))) ∧ Below w.heap.size w w' := by
  obtain ⟨g, off, cap, rfl, hcap, -, hgl, hc⟩ := hl.cell (Nat.le_of_ble_eq_true rfl)
  have c0 := hc 0 x rfl
  rw [Nat.add_zero] at c0
  have c1 := hc 1 y rfl
  clear hc hl
  have EQ0 : ((by8 kPair).toList == [104, 97, 115, 104]) = false := by decide +kernel
  have EQ1 : ((by8 kPair).toList == [112, 111, 105, 110, 116]) = false := by decide +kernel
  have EQ2 : ((by8 kPair).toList == [107, 101, 121]) = false := by decide +kernel
  have EQ3 : ((by8 kPair).toList == [115, 104, 97, 114, 101]) = false := by decide +kernel
  have EQ4 : ((by8 kPair).toList == [115, 105, 103, 110]) = false := by decide +kernel
  have EQ5 : ((by8 kPair).toList == [115, 101, 97, 108]) = false := by decide +kernel
  have SC := Lib.hid (fun w' => Wob.two_ok x y w' (by omega) (by omega))
  unfold btP
  generalize Wob.tx x ++ Wob.tx y = out at *
  go_enter Tryz.func12, Tryz.ntmps12
  go_upto_region 19 with fail
  have D0 : w.drew.cell? ⟨g, off, none⟩ = some (.string (by8 x)) := c0
  have D1 : w.drew.cell? ⟨g, off + 1, none⟩ = some (.string (by8 y)) := c1
  have hgd : g < w.drew.heap.size := hgl
  (refine Pl.wp_region_plan (fun _ => False) [(true, 0), (true, 1), (true, 2), (true, 3), (true, 4), (true, 5), (true, 6), (true, 7)] (by kernel_rfl) (by kernel_rfl) ?_)
  (refine Pl.plan_head (i := 0) rfl (fun K hK => ?_); refine Pl.plan_plain (.slice (some ⟨g, off, none⟩) 2 cap) (by first | rfl | simp [Region.wanted, yielded]) (fun w' hw' => by go_simp) ?_; go_simp; (with_reducible apply hK); clear hK K)
  (refine Pl.plan_head (i := 1) rfl (fun K hK => ?_); refine Pl.plan_plain (.pointer (some ⟨g, off, none⟩)) (by first | rfl | simp [Region.wanted, yielded]) (fun w' hw' => by go_simp) ?_; go_simp; (with_reducible apply hK); clear hK K)
  (refine Pl.plan_head (i := 2) rfl (fun K hK => ?_); refine Pl.plan_plain (.string (by8 x)) (by first | rfl | simp [Region.wanted, yielded]) (fun w' hw' => by have h := (hw'.cell (p := ⟨g, off, none⟩) D0 (fun h => h)); go_simp; try simp [h]) ?_; go_simp; (with_reducible apply hK); clear hK K)
  (refine Pl.plan_head (i := 3) rfl (fun K hK => ?_); refine Pl.plan_plain (.slice (some ⟨g, off, none⟩) 2 cap) (by first | rfl | simp [Region.wanted, yielded]) (fun w' hw' => by go_simp) ?_; go_simp; (with_reducible apply hK); clear hK K)
  (refine Pl.plan_head (i := 4) rfl (fun K hK => ?_); refine Pl.plan_plain (.pointer (some ⟨g, off + 1, none⟩)) (by first | rfl | simp [Region.wanted, yielded]) (fun w' hw' => by go_simp) ?_; go_simp; (with_reducible apply hK); clear hK K)
  (refine Pl.plan_head (i := 5) rfl (fun K hK => ?_); refine Pl.plan_plain (.string (by8 y)) (by first | rfl | simp [Region.wanted, yielded]) (fun w' hw' => by have h := (hw'.cell (p := ⟨g, off + 1, none⟩) D1 (fun h => h)); go_simp; try simp [h]) ?_; go_simp; (with_reducible apply hK); clear hK K)
  (refine Pl.plan_head (i := 6) rfl (fun K hK => ?_); refine Pl.plan_call (.string (by8 out)) 24 #[.string (by8 x), .string (by8 y)] (by first | rfl | simp [Region.wanted, yielded]) (fun w' => by go_simp) (fun w' hw' => SC.out w') ?_; go_simp; (with_reducible apply hK); clear hK K)
  (refine Pl.plan_head (i := 7) rfl (fun K hK => ?_); refine Pl.plan_plain (.string (by8 out)) (by first | rfl | simp [Region.wanted, yielded]) (fun w' hw' => by go_simp) ?_; go_simp; (with_reducible apply hK); clear hK K)
  refine Pl.plan_nil (fun w9 h9 => ?_)
  have B9 : Below w.heap.size w w9 := Rw.trans (below_drewN (Below.refl _ _) 1) h9
  go_simp
  go_wp2_with fail
  go_ret
  exact ⟨rfl, B9⟩
end Tv
end Go.Proofs.YtkhdhiddhnmdkaaGreatDoor
