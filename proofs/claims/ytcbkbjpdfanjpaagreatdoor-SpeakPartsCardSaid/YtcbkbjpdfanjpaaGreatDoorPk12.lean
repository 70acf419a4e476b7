/-
chacha: Block.
-/
import Derived.Laws.CopyOwn
import Derived.Test.YtcbkbjpdfanjpaaGreatDoorPk11
import Derived.Test.YtcbkbjpdfanjpaaGreatDoorPk07
namespace Go.Proofs.YtcbkbjpdfanjpaaGreatDoor
open Go.RowKit Cha
set_option maxRecDepth 100000
namespace Cha
def kI (l : List UInt8) (j : Nat) : Int := ((l.getD j 0).toNat : Nat)
def wk (l : List UInt8) (i : Nat) : Int := wordI (kI l (4 * i)) (kI l (4 * i + 1)) (kI l (4 * i + 2)) (kI l (4 * i + 3))
def iniK (Bg : List Int) (key : List UInt8) : Nat → List Int
  | 0 => Bg ++ List.replicate 12 0
  | i + 1 => (iniK Bg key i).set (4 + i) (wk key i)
def iniN (Bg : List Int) (key nonce : List UInt8) (ctr : Int) : Nat → List Int
  | 0 => (iniK Bg key 8).set 12 ctr
  | i + 1 => (iniN Bg key nonce ctr i).set (13 + i) (wk nonce i)
def rowL (Or : List Nat) (X : List Int) : Nat → List Int
  | 0 => X
  | j + 1 => quarterF (rowL Or X j) (Or.getD (4 * j) 0) (Or.getD (4 * j + 1) 0) (Or.getD (4 * j + 2) 0) (Or.getD (4 * j + 3) 0)
def rndC (Or : List Nat) (X : List Int) : Nat → List Int
  | 0 => X
  | r + 1 => rowL Or (rndC Or X r) 8
def outY (A X : List Int) (i : Nat) : Int := w32 (X.getD i 0 + A.getD i 0)
def outB (A X : List Int) (p : Nat) : UInt8 := lo8 (outY A X (p / 4) / 2 ^ (8 * (p % 4)))
def outP (A X : List Int) (p : Nat) : List UInt8 := (List.range 64).map fun q => if q < p then outB A X q else 0
def atF (Bg : List Int) (key nonce : List UInt8) (ctr : Int) : List Int := iniN Bg key nonce ctr 3
def blockF (Bg : List Int) (Or : List Nat) (key : List UInt8) (ctr : Int) (nonce : List UInt8) : List UInt8 :=
  outP (atF Bg key nonce ctr) (rndC Or (atF Bg key nonce ctr) 10) 64
theorem iniK_len (Bg : List Int) (key : List UInt8) (h : Bg.length = 4) : ∀ i, (iniK Bg key i).length = 16
  | 0 => by unfold iniK; rw [List.length_append, h]; rfl
  | i + 1 => by rw [iniK, List.length_set, iniK_len Bg key h i]
theorem iniN_len (Bg : List Int) (key nonce : List UInt8) (ctr : Int) (h : Bg.length = 4) : ∀ i, (iniN Bg key nonce ctr i).length = 16
  | 0 => by rw [iniN, List.length_set, iniK_len Bg key h]
  | i + 1 => by rw [iniN, List.length_set, iniN_len Bg key nonce ctr h i]
theorem row_len (Or : List Nat) (X : List Int) (h : X.length = 16) : ∀ j, (rowL Or X j).length = 16
  | 0 => h
  | j + 1 => by rw [rowL, quarter_len, row_len Or X h j]
theorem rnd_len (Or : List Nat) (X : List Int) (h : X.length = 16) : ∀ j, (rndC Or X j).length = 16
  | 0 => h
  | j + 1 => by rw [rndC, row_len _ _ (rnd_len Or X h j)]
theorem outP_len (A X : List Int) (p : Nat) : (outP A X p).length = 64 := by simp [outP]
theorem outP_set (A X : List Int) (p : Nat) (h : p < 64) : (outP A X p).set p (outB A X p) = outP A X (p + 1) := by
  apply List.ext_getElem?
  intro q
  rw [List.getElem?_set]
  unfold outP
  simp only [List.length_map, List.length_range, List.getElem?_map]
  by_cases hq : p = q
  · subst hq
    simp [h]
  · rw [if_neg hq]
    by_cases h64 : q < 64
    · rw [List.getElem?_range h64]
      simp only [Option.map_some]
      by_cases h1 : q < p
      · rw [if_pos h1, if_pos (by omega)]
      · rw [if_neg h1, if_neg (by omega)]
    · rw [List.getElem?_eq_none (by simp; omega)]; rfl
theorem outP_zero (A X : List Int) : outP A X 0 = List.replicate 64 0 := by
  unfold outP
  rw [List.eq_replicate_iff]
  exact ⟨by simp, fun b hb => by
    simp at hb
    exact hb.2.symm⟩
theorem block_len (Bg : List Int) (Or : List Nat) (key : List UInt8) (ctr : Int) (nonce : List UInt8) : (blockF Bg Or key ctr nonce).length = 64 := outP_len _ _ _
end Cha
/-- the tables lie where they should -/
structure ChaT (w : World) (Bg : List Int) (Or : List Nat) : Prop where
  b : Bg.length = 4
  o : Or.length = 32
  s : ∀ j, Or.getD j 0 < 16
  cb : w.rangeAt 8 0 (iv .u32 Bg)
  co : w.rangeAt 9 0 (iv .i64 (Or.map fun (n : Nat) => (n : Int)))
theorem range_keeps {w w' : World} {F : Nat → Prop} {b o : Nat} {cs : List Value} (h : w.rangeAt b o cs) (hk : Keeps F w w') (hb : ¬ F b) : w'.rangeAt b o cs := fun j v hj => hk.cell (h j v hj) hb
theorem ChaT.below {w w' : World} {Bg : List Int} {Or : List Nat} (h : ChaT w Bg Or) (hk : Below w.heap.size w w') : ChaT w' Bg Or :=
  ⟨h.b, h.o, h.s, range_keeps h.cb (Keeps.of_below (F := fun _ => False) hk) id, range_keeps h.co (Keeps.of_below (F := fun _ => False) hk) id⟩
theorem Blk.new4 (w : World) (o o2 o3 : Obj) (t : TypeId) (cs : List Value) : Blk ((((w.alloc o).alloc o2).alloc o3).alloc (.cells cs.toArray t (0, 0))) (w.heap.size + 3) t cs := by
  have := Blk.new (((w.alloc o).alloc o2).alloc o3) t cs
  rwa [show (((w.alloc o).alloc o2).alloc o3).heap.size = w.heap.size + 3 by simp] at this
theorem below4 (w : World) (o o2 o3 o4 : Obj) : Below w.heap.size w ((((w.alloc o).alloc o2).alloc o3).alloc o4) := (below3 w o o2 o3).alloc (by simp; omega) _
def z64 : List UInt8 := List.replicate 64 0
def z16 : List Int := List.replicate 16 0
theorem ord_size : (Tryz.prog.info? 154).map (·.size) = some 32 := by kernel_rfl
theorem ord4_size : (Tryz.prog.info? 153).map (·.size) = some 4 := by kernel_rfl
theorem arr64_size : (Tryz.prog.info? 134).map (·.size) = some 64 := by kernel_rfl
theorem state_size : (Tryz.prog.info? 150).map (·.size) = some 16 := by kernel_rfl
theorem byv_range {w : World} {b : Nat} {t : TypeId} {l : List UInt8} (h : Blk w b t (byv l)) (i : Nat) (hi : i + 3 < l.length) : w.rangeAt b i [.int .u8 (kI l i), .int .u8 (kI l (i + 1)), .int .u8 (kI l (i + 2)), .int .u8 (kI l (i + 3))] :=
  h.range i _ fun j v hv => by
    match j, hv with
    | 0, hv => rw [← hv]; exact byv_get l i (by omega)
    | 1, hv => rw [← hv]; exact byv_get l (i + 1) (by omega)
    | 2, hv => rw [← hv]; exact byv_get l (i + 2) (by omega)
    | 3, hv => rw [← hv]; exact byv_get l (i + 3) (by omega)
theorem wk_ok (l : List UInt8) (i : Nat) (hi : 4 * i + 3 < l.length) (b n cp : Nat) (t : TypeId) (w : World) (hb : Blk w b t (byv l)) (hn : 4 ≤ n) :
    Calls Tryz.prog 104 #[.slice (some ⟨b, 4 * i, none⟩) n cp] w fun e w' => e = .returned (.int .u32 (wk l i)) ∧ Rw w w' := chaWord_ok b (4 * i) n cp _ _ _ _ w hn (byv_range hb (4 * i) hi)
/-- '[n]T', from an element on -/
theorem run_slice_from {P : Program} {t e : TypeId} {n : Nat} (ht : P.underlying t = some (.array n e)) (hi : (P.info? e).map (·.size) = some 1) (b l : Nat) (hl : l < n) (w : World) :
    (Instr.sliceAt t (.pointer (some ⟨b, 0, none⟩)) (some (.int .i64 (l : Nat))) none none).run P w = .ok (.slice (some ⟨b, l, none⟩) (n - l) (n - l)) w := by
  cases hi2 : P.info? e with
  | none => rw [hi2] at hi; cases hi
  | some i =>
    rw [hi2] at hi
    have hz : i.size = 1 := by simpa using hi
    have hne : ¬ n = l := by omega
    have hle : l ≤ n := by omega
    simp [Instr.sliceAt, Instr.sureAddr, run_underlying ht, Instr.sliceBounds, run_sliceBound, sizeOf, typeInfo, hi2, hz, hne, hle, Addr.add_lit]
/-- an array's row of an array of arrays -/
theorem run_index_row {P : Program} {t e u : TypeId} {n m : Nat} {k : IntKind} {l r : List Int} (ht : P.underlying t = some (.array n e)) (he : P.underlying e = some (.array m u)) (hi : (P.info? e).map (·.size) = some m) (hl : l.length = n * m) (q : Nat) (hq : q < n) (hr : r = (l.drop (q * m)).take m) (w : World) :
    (Instr.index t (.agg (iv k l).toArray) (.int .i64 (q : Nat))).run P w = .ok (.agg (iv k r).toArray) w := by
  cases hi2 : P.info? e with
  | none => rw [hi2] at hi; cases hi
  | some i =>
    rw [hi2] at hi
    have hz : i.size = m := by simpa using hi
    have hle : q * m + m ≤ n * m := by rw [← Nat.succ_mul]; exact Nat.mul_le_mul_right m hq
    have hLR : ((iv k l).drop (q * m)).take m = iv k r := by
      rw [hr]
      unfold iv
      rw [List.map_take, List.map_drop]
    have hsz : (iv k l).length = n * m := by rw [iv_len, hl]
    generalize iv k l = L at *
    generalize iv k r = R at *
    simp [Instr.index, run_underlying ht, hq, part, isAgg, run_underlying he, sizeOf, typeInfo, hi2, hz, asIntOf]
    exact hLR
theorem row4 (Or : List Nat) (q : Nat) (h : 4 * q + 3 < Or.length) : [((Or.getD (4 * q) 0 : Nat) : Int), ((Or.getD (4 * q + 1) 0 : Nat) : Int), ((Or.getD (4 * q + 2) 0 : Nat) : Int), ((Or.getD (4 * q + 3) 0 : Nat) : Int)] = ((Or.map fun (n : Nat) => (n : Int)).drop (q * 4)).take 4 := by
  apply List.ext_getElem?
  intro j
  rw [List.getElem?_take]
  have g : ∀ k, 4 * q + k < Or.length → Or[4 * q + k]? = some (Or.getD (4 * q + k) 0) := fun k hk => by rw [List.getD_eq_getElem?_getD, List.getElem?_eq_getElem hk]; rfl
  by_cases hj : j < 4
  · rw [if_pos hj, List.getElem?_drop, List.getElem?_map, Nat.mul_comm q 4, g j (by omega)]
    match j, hj with
    | 0, _ => rfl
    | 1, _ => rfl
    | 2, _ => rfl
    | 3, _ => rfl
  · rw [if_neg hj]
    match j, hj with
    | j + 4, _ => rfl
theorem rowL_succ (Or : List Nat) (X : List Int) (j : Nat) : rowL Or X (j + 1) = quarterF (rowL Or X j) (Or.getD (4 * j) 0) (Or.getD (4 * j + 1) 0) (Or.getD (4 * j + 2) 0) (Or.getD (4 * j + 3) 0) := rfl
theorem rndC_succ (Or : List Nat) (X : List Int) (j : Nat) : rndC Or X (j + 1) = rowL Or (rndC Or X j) 8 := rfl
set_option maxHeartbeats 8000000 in
theorem block_ok (Bg : List Int) (Or : List Nat) (key nonce : List UInt8) (ctr : Int) (w : World) (hT : ChaT w Bg Or) (hk : key.length = 32) (hn : nonce.length = 12) (hg : 8 < w.heap.size ∧ 9 < w.heap.size) :
    Calls Tryz.prog 90 #[.agg (byv key).toArray, .int .u32 ctr, .agg (byv nonce).toArray] w fun e w' => e = .returned (.agg (byv (blockF Bg Or key ctr nonce)).toArray) ∧ Below w.heap.size w w' := by
  have HT := Lib.hid (And.intro hT hg)
  have HL := Lib.hid (And.intro hk hn)
  clear hT hg hk hn
  go_enter Tryz.func90, Tryz.ntmps90
  go_upto_region 2 with fail
  refine wp_gen (fun wx => Blk wx w.heap.size 23 (byv key) ∧ Blk wx (w.heap.size + 1) 79 (byv nonce) ∧ Blk wx (w.heap.size + 2) 134 (byv z64) ∧ Blk wx (w.heap.size + 3) 150 (iv .u32 z16) ∧ Below w.heap.size w wx)
    ⟨(((Blk.new w _ (byv key)).alloc _).alloc _).alloc _, ((Blk.new2 _ _ _ (byv nonce)).alloc _).alloc _, (Blk.new3 _ _ _ _ (byv z64)).alloc _, Blk.new4 _ _ _ _ _ (iv .u32 z16), below4 _ _ _ _ _⟩ ?_
  intro w1 Z1
  rw [show w.heap.size + 1 + 1 = w.heap.size + 2 from rfl, show w.heap.size + 2 + 1 = w.heap.size + 3 from rfl]
  have H1 := Lib.hid Z1
  clear Z1
  (refine wp_region_quiet_tail (C := fun w' => Rw (w1.drewN 1) w') 2 (by kernel_rfl) (by kernel_rfl) (Rw.refl _) ?_; simp only [List.take_succ_cons, List.take_zero, List.drop_succ_cons, List.drop_zero])
  (repeat ((with_reducible refine wpQuiet_step (fun K hK => ?_)); refine quiet_autoE (by first | rfl | simp [Region.wanted, yielded]) ?_; apply Exists.intro; refine ⟨fun w' hw' => ?_, ?_⟩; (focus (go_simp; (first | done | rfl | ((try go_ints); (try simp only [↓IntWalk.iteOmega, true_and]); (try go_simp); (first | done | rfl))))); go_simp; (with_reducible apply hK); clear hK K))
  refine wpQuiet_nil ?_
  intro w2 hw2
  have R2 : Rw w1 w2 := Rw.trans (below_drewN (Below.refl _ _) 1) hw2
  have G2 := H1.out.2.2.2.1.rw R2
  have T2 := HT.out.1.below (Rw.out H1.out.2.2.2.2 R2)
  refine wpList_copy_own rfl (.tmp 17) (.tmp 18) 41 41 rfl 75 Tryz.underlying41 (by kernel_rfl) (w.heap.size + 3) 0 16 16 ⟨8, 0, none⟩ 4 4 rfl rfl (iv .u32 z16).toArray 150 G2 (iv .u32 Bg) (by rw [iv_len, T2.b]; rfl) (fun j v hv => ?src) (by rw [iv_len, T2.b]; show 0 + 4 ≤ 16; decide) (iv_one _ _) ?_
  case src =>
    rw [Addr.add_lit]
    exact T2.cb j v hv
  have e0 : ((iv .u32 z16).toArray.toList.take 0 ++ (iv .u32 Bg ++ (iv .u32 z16).toArray.toList.drop (0 + (iv .u32 Bg).length))) = iv .u32 (iniK Bg key 0) := by
    rw [iv_len, T2.b]
    show [] ++ (iv .u32 Bg ++ iv .u32 (List.replicate 12 0)) = iv .u32 (Bg ++ List.replicate 12 0)
    simp [iv]
  rw [e0]
  refine list_gen (fun wx => Blk wx w.heap.size 23 (byv key) ∧ Blk wx (w.heap.size + 1) 79 (byv nonce) ∧ Blk wx (w.heap.size + 2) 134 (byv z64) ∧ Blk wx (w.heap.size + 3) 150 (iv .u32 (iniK Bg key 0)) ∧ Below w.heap.size w wx)
    ⟨(H1.out.1.rw R2).farRow (by omega) _, (H1.out.2.1.rw R2).farRow (by omega) _, (H1.out.2.2.1.rw R2).farRow (by omega) _, G2.setRow _, below_row (Rw.out H1.out.2.2.2.2 R2) _ _ (by omega)⟩ ?_
  intro w3 Z3
  have H3 := Lib.hid Z3
  clear Z3 e0 G2 T2 R2 hw2 H1
  go_wp2_with fail
  go_loopw [20] (fun v wr => ∃ i : Nat, v = .int .i64 i ∧ i ≤ 8 ∧ Hid (Blk wr w.heap.size 23 (byv key) ∧ Blk wr (w.heap.size + 1) 79 (byv nonce) ∧ Blk wr (w.heap.size + 2) 134 (byv z64) ∧ Blk wr (w.heap.size + 3) 150 (iv .u32 (iniK Bg key i)) ∧ Below w.heap.size w wr)) (fun v _ => 8 - (intOf v).toNat)
  case atStart => exact ⟨0, rfl, by omega, H3.out⟩
  case round =>
    obtain ⟨i, rfl, hi, hr⟩ := hrel
    clear H3
    have hbl := HT.out.1.b
    rcases Nat.lt_or_ge i 8 with h8 | h8
    · obtain ⟨i4, hi4⟩ : ∃ i4, i4 = 4 * i := ⟨_, rfl⟩
      obtain ⟨ip, hip⟩ : ∃ ip, ip = 4 + i := ⟨_, rfl⟩
      have e4 : (4 : Int) * (i : Int) = (i4 : Int) := by omega
      have e5 : (4 : Int) + (i : Int) = (ip : Int) := by omega
      have l4 : i4 ≤ 28 := by omega
      have lp : ip < 12 := by omega
      have hw4 := fun (n cp : Nat) (hn : 4 ≤ n) => wk_ok key i (by have := HL.out.1; omega) w.heap.size n cp _ wr hr.out.1 hn
      rw [← hi4] at hw4
      have HW := Lib.hid hw4
      have HI := Lib.hid (And.intro hi4 hip)
      have hsl := fun W => run_slice_from (P := Tryz.prog) Tryz.underlying23 (by kernel_rfl) w.heap.size i4 (by omega) W
      clear hi4 hip hw4
      go_upto_region 7 with (go_at_call 104; refine (HW.out _ _ (by omega)).mono ?_; rintro e w4 ⟨rfl, hb4⟩; have O4 := hr.out.2.2.2.1.rw hb4; have c4 := O4.icell ip (by rw [iniK_len Bg key hbl]; omega); have f4 := O4.free ip)
      have HS : Hid (Blk (w4.setCell ⟨w.heap.size + 3, ip, none⟩ (.int .u32 (wk key i))) w.heap.size 23 (byv key) ∧ Blk (w4.setCell ⟨w.heap.size + 3, ip, none⟩ (.int .u32 (wk key i))) (w.heap.size + 1) 79 (byv nonce) ∧ Blk (w4.setCell ⟨w.heap.size + 3, ip, none⟩ (.int .u32 (wk key i))) (w.heap.size + 2) 134 (byv z64) ∧ Blk (w4.setCell ⟨w.heap.size + 3, ip, none⟩ (.int .u32 (wk key i))) (w.heap.size + 3) 150 (iv .u32 (iniK Bg key (i + 1))) ∧ Below w.heap.size w (w4.setCell ⟨w.heap.size + 3, ip, none⟩ (.int .u32 (wk key i)))) :=
        Lib.hid ⟨(hr.out.1.rw hb4).far (by omega) _ _, (hr.out.2.1.rw hb4).far (by omega) _ _, (hr.out.2.2.1.rw hb4).far (by omega) _ _, by rw [iniK, ← HI.out.2]; exact O4.iset ip _, below_set' (Rw.out hr.out.2.2.2.2 hb4) _ _ _ (by omega)⟩
      clear O4 c4 f4 hb4 hsl HW hr
      go_wp2_with fail
      go_roundw
      case rel => exact ⟨i + 1, by go_num, by omega, HS⟩
      case measure => simp [intOf]; omega
    · have hi8 : i = 8 := by omega
      rw [hi8] at hr
      clear hi8
      have c12 := hr.out.2.2.2.1.icell 12 (by rw [iniK_len Bg key hbl]; omega)
      have f12 := hr.out.2.2.2.1.free 12
      have HN0 : Hid (Blk (wr.setCell ⟨w.heap.size + 3, 12, none⟩ (.int .u32 ctr)) w.heap.size 23 (byv key) ∧ Blk (wr.setCell ⟨w.heap.size + 3, 12, none⟩ (.int .u32 ctr)) (w.heap.size + 1) 79 (byv nonce) ∧ Blk (wr.setCell ⟨w.heap.size + 3, 12, none⟩ (.int .u32 ctr)) (w.heap.size + 2) 134 (byv z64) ∧ Blk (wr.setCell ⟨w.heap.size + 3, 12, none⟩ (.int .u32 ctr)) (w.heap.size + 3) 150 (iv .u32 (iniN Bg key nonce ctr 0)) ∧ Below w.heap.size w (wr.setCell ⟨w.heap.size + 3, 12, none⟩ (.int .u32 ctr))) :=
        Lib.hid ⟨hr.out.1.far (by omega) _ _, hr.out.2.1.far (by omega) _ _, hr.out.2.2.1.far (by omega) _ _, hr.out.2.2.2.1.iset 12 _, below_set' hr.out.2.2.2.2 _ _ _ (by omega)⟩
      go_upto_region 9 with fail
      refine wp_gen (fun wx => Blk wx w.heap.size 23 (byv key) ∧ Blk wx (w.heap.size + 1) 79 (byv nonce) ∧ Blk wx (w.heap.size + 2) 134 (byv z64) ∧ Blk wx (w.heap.size + 3) 150 (iv .u32 (iniN Bg key nonce ctr 0)) ∧ Below w.heap.size w wx) HN0.out ?_
      clear HN0 c12 f12 hr
      intro w5 Z5
      have H5 := Lib.hid Z5
      clear Z5
      go_wp2_with fail
      rw [show decide ((i : Int) < 8) = false from decide_eq_false (by omega)]
      go_loopw [33] (fun v wr => ∃ i : Nat, v = .int .i64 i ∧ i ≤ 3 ∧ Hid (Blk wr w.heap.size 23 (byv key) ∧ Blk wr (w.heap.size + 1) 79 (byv nonce) ∧ Blk wr (w.heap.size + 2) 134 (byv z64) ∧ Blk wr (w.heap.size + 3) 150 (iv .u32 (iniN Bg key nonce ctr i)) ∧ Below w.heap.size w wr)) (fun v _ => 3 - (intOf v).toNat)
      case atStart => exact ⟨0, rfl, by omega, H5.out⟩
      case round =>
        obtain ⟨j, rfl, hj, hr⟩ := hrel
        clear H5
        rcases Nat.lt_or_ge j 3 with h3 | h3
        · obtain ⟨i4, hi4⟩ : ∃ i4, i4 = 4 * j := ⟨_, rfl⟩
          obtain ⟨ip, hip⟩ : ∃ ip, ip = 13 + j := ⟨_, rfl⟩
          have e4 : (4 : Int) * (j : Int) = (i4 : Int) := by omega
          have e5 : (13 : Int) + (j : Int) = (ip : Int) := by omega
          have l4 : i4 ≤ 8 := by omega
          have lp : ip < 16 := by omega
          have hw4 := fun (n cp : Nat) (hn : 4 ≤ n) => wk_ok nonce j (by have := HL.out.2; omega) (w.heap.size + 1) n cp _ wr hr.out.2.1 hn
          rw [← hi4] at hw4
          have HW := Lib.hid hw4
          have HI := Lib.hid (And.intro hi4 hip)
          have hsl := fun W => run_slice_from (P := Tryz.prog) Tryz.underlying79 (by kernel_rfl) (w.heap.size + 1) i4 (by omega) W
          clear hi4 hip hw4
          go_upto_region 13 with (go_at_call 104; refine (HW.out _ _ (by omega)).mono ?_; rintro e w4 ⟨rfl, hb4⟩; have O4 := hr.out.2.2.2.1.rw hb4; have c4 := O4.icell ip (by rw [iniN_len Bg key nonce ctr hbl]; omega); have f4 := O4.free ip)
          have HS : Hid (Blk (w4.setCell ⟨w.heap.size + 3, ip, none⟩ (.int .u32 (wk nonce j))) w.heap.size 23 (byv key) ∧ Blk (w4.setCell ⟨w.heap.size + 3, ip, none⟩ (.int .u32 (wk nonce j))) (w.heap.size + 1) 79 (byv nonce) ∧ Blk (w4.setCell ⟨w.heap.size + 3, ip, none⟩ (.int .u32 (wk nonce j))) (w.heap.size + 2) 134 (byv z64) ∧ Blk (w4.setCell ⟨w.heap.size + 3, ip, none⟩ (.int .u32 (wk nonce j))) (w.heap.size + 3) 150 (iv .u32 (iniN Bg key nonce ctr (j + 1))) ∧ Below w.heap.size w (w4.setCell ⟨w.heap.size + 3, ip, none⟩ (.int .u32 (wk nonce j)))) :=
            Lib.hid ⟨(hr.out.1.rw hb4).far (by omega) _ _, (hr.out.2.1.rw hb4).far (by omega) _ _, (hr.out.2.2.1.rw hb4).far (by omega) _ _, by rw [iniN, ← HI.out.2]; exact O4.iset ip _, below_set' (Rw.out hr.out.2.2.2.2 hb4) _ _ _ (by omega)⟩
          clear O4 c4 f4 hb4 hsl HW hr
          go_wp2_with fail
          go_roundw
          case rel => exact ⟨j + 1, by go_num, by omega, HS⟩
          case measure => simp [intOf]; omega
        · have hj3 : j = 3 := by omega
          rw [hj3] at hr
          clear hj3
          obtain ⟨A, hA⟩ : ∃ A, A = atF Bg key nonce ctr := ⟨_, rfl⟩
          have hAl : A.length = 16 := by rw [hA]; exact iniN_len Bg key nonce ctr hbl 3
          have LA : Hid ((iv .u32 A).length = 16) := by rw [iv_len]; exact hAl
          have H6 : Hid (Blk wr (w.heap.size + 2) 134 (byv z64) ∧ Blk wr (w.heap.size + 3) 150 (iv .u32 A) ∧ Below w.heap.size w wr) := Lib.hid ⟨hr.out.2.2.1, by rw [hA]; exact hr.out.2.2.2.1, hr.out.2.2.2.2⟩
          have HA := Lib.hid hA
          clear hA hr
          go_upto_region 15 with (first | refine load_blk H6.out.2.1 Tryz.underlying150 rfl state_size LA.out rfl rfl rfl ?_ | refine store_blk (Blk.new wr _ (iv .u32 z16)) state_size LA.out rfl (iv_one _ _) rfl rfl rfl rfl ?_)
          have N7 := new_row wr 150 (iv .u32 z16) (iv .u32 A)
          refine wp_gen (fun wx => Blk wx wr.heap.size 150 (iv .u32 (rndC Or A 0)) ∧ Rw wr wx) ⟨N7.1, N7.2⟩ ?_
          rintro w7 ⟨B7, R7⟩
          have hc1 : w.heap.size + 3 < wr.heap.size := H6.out.2.1.lt
          generalize hcx : wr.heap.size = cx at *
          have H7 : Hid (Blk w7 cx 150 (iv .u32 (rndC Or A 0)) ∧ Blk w7 (w.heap.size + 2) 134 (byv z64) ∧ Blk w7 (w.heap.size + 3) 150 (iv .u32 A) ∧ Below w.heap.size w w7) := Lib.hid ⟨B7, H6.out.1.rw R7, H6.out.2.1.rw R7, Rw.out H6.out.2.2 R7⟩
          clear N7 B7 R7 H6 hcx
          go_wp2_with fail
          rw [show decide ((j : Int) < 3) = false from decide_eq_false (by omega)]
          go_loopw [45] (fun v wr => ∃ r : Nat, v = .int .i64 r ∧ r ≤ 10 ∧ Hid (Blk wr cx 150 (iv .u32 (rndC Or A r)) ∧ Blk wr (w.heap.size + 2) 134 (byv z64) ∧ Blk wr (w.heap.size + 3) 150 (iv .u32 A) ∧ Below w.heap.size w wr)) (fun v _ => 10 - (intOf v).toNat)
          case atStart => exact ⟨0, rfl, by omega, H7.out⟩
          case round =>
            obtain ⟨r, rfl, hrr, hq⟩ := hrel
            clear H7
            rcases Nat.lt_or_ge r 10 with h10 | h10
            · have hXl := rnd_len Or A hAl r
              obtain ⟨X, hX⟩ : ∃ X, X = rndC Or A r := ⟨_, rfl⟩
              rw [← hX] at hXl hq
              have HX := Lib.hid hX
              clear hX
              have TT := HT.out.1.below hq.out.2.2.2
              have HTT := Lib.hid TT
              have LO : Hid ((iv .i64 (Or.map fun (n : Nat) => (n : Int))).length = 32) := Lib.hid (by rw [iv_len, List.length_map]; exact TT.o)
              clear TT
              go_upto_region 18 with (refine wpList_load_mid rfl 154 (.global 9) rfl 9 0 rfl (iv .i64 (Or.map fun (n : Nat) => (n : Int))) _ HTT.out.co Tryz.underlying154 rfl (by rw [LO.out]; exact ord_size) ?_)
              go_loopw [48] (fun v wr => ∃ q : Nat, v = .int .i64 q ∧ q ≤ 8 ∧ Hid (Blk wr cx 150 (iv .u32 (rowL Or X q)) ∧ Blk wr (w.heap.size + 2) 134 (byv z64) ∧ Blk wr (w.heap.size + 3) 150 (iv .u32 A) ∧ Below w.heap.size w wr)) (fun v _ => 8 - (intOf v).toNat)
              case atStart => exact ⟨0, rfl, by omega, hq.out⟩
              case round =>
                obtain ⟨q, rfl, hqq, hs⟩ := hrel
                clear hq
                rcases Nat.lt_or_ge q 8 with h8 | h8
                · obtain ⟨Y, hY⟩ : ∃ Y, Y = rowL Or X q := ⟨_, rfl⟩
                  have hYl : Y.length = 16 := by rw [hY]; exact row_len Or X hXl q
                  rw [← hY] at hs
                  have hidx := fun W => run_index_row (P := Tryz.prog) (k := .i64) (l := Or.map fun (n : Nat) => (n : Int)) Tryz.underlying154 Tryz.underlying153 (by kernel_rfl) (by rw [List.length_map]; exact HTT.out.o) q h8 (row4 Or q (by have := HTT.out.o; omega)) W
                  have ha := HTT.out.s (4 * q)
                  have hb := HTT.out.s (4 * q + 1)
                  have hc := HTT.out.s (4 * q + 2)
                  have hd := HTT.out.s (4 * q + 3)
                  have hrow := rowL_succ Or X q
                  rw [← hY] at hrow
                  generalize Or.getD (4 * q) 0 = a at *
                  generalize Or.getD (4 * q + 1) 0 = b at *
                  generalize Or.getD (4 * q + 2) 0 = c at *
                  generalize Or.getD (4 * q + 3) 0 = d at *
                  have HY := Lib.hid hY
                  clear hY
                  have HROW := Lib.hid hrow
                  clear hrow
                  go_upto_region 20 with (refine store_blk (Blk.new wr _ (iv .i64 [0, 0, 0, 0])) ord4_size rfl rfl (iv_one _ _) rfl rfl rfl rfl ?_)
                  have N8 := new_row wr 153 (iv .i64 [0, 0, 0, 0]) (iv .i64 [(a : Int), (b : Int), (c : Int), (d : Int)])
                  refine wp_gen (fun wx => Blk wx wr.heap.size 153 (iv .i64 [(a : Int), (b : Int), (c : Int), (d : Int)]) ∧ Rw wr wx) ⟨N8.1, N8.2⟩ ?_
                  rintro w8 ⟨B8, R8⟩
                  have j0 := B8.icell 0 (by show 0 < 4; decide)
                  have j1 := B8.icell 1 (by show 1 < 4; decide)
                  have j2 := B8.icell 2 (by show 2 < 4; decide)
                  have j3 := B8.icell 3 (by show 3 < 4; decide)
                  have H8 : Hid (Blk w8 cx 150 (iv .u32 Y) ∧ Blk w8 (w.heap.size + 2) 134 (byv z64) ∧ Blk w8 (w.heap.size + 3) 150 (iv .u32 A) ∧ Below w.heap.size w w8) := Lib.hid ⟨hs.out.1.rw R8, hs.out.2.1.rw R8, hs.out.2.2.1.rw R8, Rw.out hs.out.2.2.2 R8⟩
                  have hqt := quarter_ok cx a b c d Y w8 ha hb hc hd H8.out.1 hYl
                  have HQT := Lib.hid hqt
                  clear N8 B8 R8 hs hqt
                  generalize wr.heap.size = c4 at *
                  go_upto_region 21 with (go_at_call 105; refine HQT.out.mono ?_; rintro e w9 ⟨rfl, hB9, hK9⟩)
                  have HS : Hid (Blk w9 cx 150 (iv .u32 (rowL Or X (q + 1))) ∧ Blk w9 (w.heap.size + 2) 134 (byv z64) ∧ Blk w9 (w.heap.size + 3) 150 (iv .u32 A) ∧ Below w.heap.size w w9) :=
                    Lib.hid ⟨by rw [HROW.out]; exact hB9, hK9.blk H8.out.2.1 (by omega), hK9.blk H8.out.2.2.1 (by omega), H8.out.2.2.2.trans (Keeps.below hK9 H8.out.2.2.2.size (fun k hk e => by omega))⟩
                  clear hB9 hK9 H8 HQT j0 j1 j2 j3 HROW
                  go_wp2_with fail
                  go_roundw
                  case rel => exact ⟨q + 1, by go_num, by omega, HS⟩
                  case measure => simp [intOf]; omega
                · have hq8 : q = 8 := by omega
                  rw [hq8, HX.out, ← rndC_succ] at hs
                  clear hq8
                  go_wp2_with fail
                  go_roundw
                  case rel => exact ⟨r + 1, by go_num, by omega, hs⟩
                  case measure => simp [intOf]; omega
            · have hr10 : r = 10 := by omega
              rw [hr10] at hq
              clear hr10
              obtain ⟨X, hX⟩ : ∃ X, X = rndC Or A 10 := ⟨_, rfl⟩
              have hXl : X.length = 16 := by rw [hX]; exact rnd_len Or A hAl 10
              rw [← hX] at hq
              have HX := Lib.hid hX
              clear hX
              go_upto_region 24 with fail
              refine wp_gen (fun wx => Blk wx wr.heap.size 134 (byv (outP A X (4 * 0))) ∧ Rw wr wx) ⟨by rw [Nat.mul_zero, outP_zero]; exact Blk.new wr _ (byv z64), below1 _ _⟩ ?_
              rintro w8 ⟨B8, R8⟩
              have hcx : cx < wr.heap.size := hq.out.1.lt
              generalize wr.heap.size = co at *
              have H8 : Hid (Blk w8 co 134 (byv (outP A X (4 * 0))) ∧ Blk w8 cx 150 (iv .u32 X) ∧ Blk w8 (w.heap.size + 2) 134 (byv z64) ∧ Blk w8 (w.heap.size + 3) 150 (iv .u32 A) ∧ Below w.heap.size w w8) := Lib.hid ⟨B8, hq.out.1.rw R8, hq.out.2.1.rw R8, hq.out.2.2.1.rw R8, Rw.out hq.out.2.2.2 R8⟩
              clear B8 R8 hq
              go_wp2_with fail
              rw [show decide ((r : Int) < 10) = false from decide_eq_false (by omega)]
              go_loopw [62] (fun v wr => ∃ i : Nat, v = .int .i64 i ∧ i ≤ 16 ∧ Hid (Blk wr co 134 (byv (outP A X (4 * i))) ∧ Blk wr cx 150 (iv .u32 X) ∧ Blk wr (w.heap.size + 2) 134 (byv z64) ∧ Blk wr (w.heap.size + 3) 150 (iv .u32 A) ∧ Below w.heap.size w wr)) (fun v _ => 16 - (intOf v).toNat)
              case atStart => exact ⟨0, rfl, by omega, H8.out⟩
              case round =>
                obtain ⟨i, rfl, hii, hs⟩ := hrel
                clear H8
                rcases Nat.lt_or_ge i 16 with h8 | h8
                · have qx : ∀ w', Rw (wr.drewN 1) w' → w'.cell? ⟨cx, i, none⟩ = some (.int .u32 (X.getD i 0)) := fun w' h => ((hs.out.2.1.drew 1).rw h).icell i (by omega)
                  have qa : ∀ w', Rw (wr.drewN 1) w' → w'.cell? ⟨w.heap.size + 3, i, none⟩ = some (.int .u32 (A.getD i 0)) := fun w' h => ((hs.out.2.2.2.1.drew 1).rw h).icell i (by omega)
                  have hy : outY A X i = IntKind.u32.wrap (X.getD i 0 + A.getD i 0) := rfl
                  have HY := Lib.hid hy
                  generalize X.getD i 0 = xi at *
                  generalize A.getD i 0 = ai at *
                  clear hy
                  go_upto_region 27 with fail
                  (refine region_quiet (C := fun w' => Rw (wr.drewN 1) w') (by kernel_rfl) (by kernel_rfl) (Rw.refl _) ?_)
                  (repeat ((with_reducible refine wpQuiet_step (fun K hK => ?_)); refine quiet_autoE (by first | rfl | simp [Region.wanted, yielded]) ?_; apply Exists.intro; refine ⟨fun w' hw' => ?_, ?_⟩; (focus (go_simp; (first | done | rfl | ((try go_ints); (try simp only [↓IntWalk.iteOmega, true_and]); (try go_simp); (first | done | rfl))))); go_simp; (with_reducible apply hK); clear hK K))
                  refine wpQuiet_nil ?_
                  intro w5 hw5
                  have R5 : Rw wr w5 := Rw.trans (below_drewN (Below.refl _ _) 1) hw5
                  have H5 : Hid (Blk w5 co 134 (byv (outP A X (4 * i + 0))) ∧ Blk w5 cx 150 (iv .u32 X) ∧ Blk w5 (w.heap.size + 2) 134 (byv z64) ∧ Blk w5 (w.heap.size + 3) 150 (iv .u32 A) ∧ Below w.heap.size w w5) := Lib.hid ⟨hs.out.1.rw R5, hs.out.2.1.rw R5, hs.out.2.2.1.rw R5, hs.out.2.2.2.1.rw R5, Rw.out hs.out.2.2.2.2 R5⟩
                  rw [← HY.out]
                  obtain ⟨y, hy⟩ : ∃ y, y = outY A X i := ⟨_, rfl⟩
                  rw [← hy]
                  have HY2 := Lib.hid hy
                  clear hs hw5 R5 qx qa hy
                  go_wp2_with fail
                  go_loopw [72] (fun v wr => ∃ k : Nat, v = .int .i64 k ∧ k ≤ 4 ∧ Hid (Blk wr co 134 (byv (outP A X (4 * i + k))) ∧ Blk wr cx 150 (iv .u32 X) ∧ Blk wr (w.heap.size + 2) 134 (byv z64) ∧ Blk wr (w.heap.size + 3) 150 (iv .u32 A) ∧ Below w.heap.size w wr)) (fun v _ => 4 - (intOf v).toNat)
                  case atStart => exact ⟨0, rfl, by omega, H5.out⟩
                  case round =>
                    obtain ⟨k, rfl, hk, hs⟩ := hrel
                    clear H5
                    rcases Nat.lt_or_ge k 4 with h9 | h9
                    · obtain ⟨i4, hi4⟩ : ∃ i4, i4 = 4 * i := ⟨_, rfl⟩
                      obtain ⟨p, hp⟩ : ∃ p, p = 4 * i + k := ⟨_, rfl⟩
                      obtain ⟨k8, hk8⟩ : ∃ k8, k8 = 8 * k := ⟨_, rfl⟩
                      have e4 : (4 : Int) * (i : Int) = (i4 : Int) := by omega
                      have e5 : (i4 : Int) + (k : Int) = (p : Int) := by omega
                      have e8 : (8 : Int) * (k : Int) = (k8 : Int) := by omega
                      have lp : p < 64 := by omega
                      have lk : k8 ≤ 24 := by omega
                      have hob : Hid (outB A X p = lo8 (y / 2 ^ k8)) := Lib.hid (by unfold outB; rw [HY2.out, hk8, show p / 4 = i by omega, show p % 4 = k by omega])
                      rw [← hp] at hs
                      have ch := hs.out.1.cell p _ (byv_get (outP A X p) p (by rw [outP_len]; exact lp))
                      have fh := hs.out.1.free p
                      have S1 := hs.out.1.set p (.int .u8 ((outB A X p).toNat : Nat))
                      rw [byv_set, outP_set _ _ _ lp, hob.out, ← lo8_val] at S1
                      have HS := Lib.hid (And.intro S1 (And.intro (hs.out.2.1.far (show cx ≠ co by omega) p (.int .u8 (IntKind.u8.wrap (y / 2 ^ k8)))) (And.intro (hs.out.2.2.1.far (show w.heap.size + 2 ≠ co by omega) p (.int .u8 (IntKind.u8.wrap (y / 2 ^ k8)))) (And.intro (hs.out.2.2.2.1.far (show w.heap.size + 3 ≠ co by omega) p (.int .u8 (IntKind.u8.wrap (y / 2 ^ k8)))) (below_set' hs.out.2.2.2.2 co p (.int .u8 (IntKind.u8.wrap (y / 2 ^ k8))) (by omega))))))
                      have HP := Lib.hid hp
                      clear hs S1 hi4 hp hk8
                      go_wp2_with fail
                      go_roundw
                      case rel => exact ⟨k + 1, by go_num, by omega, by rw [← Nat.add_assoc, ← HP.out]; exact HS.out⟩
                      case measure => simp [intOf]; omega
                    · have hk4 : k = 4 := by omega
                      rw [hk4] at hs
                      clear hk4
                      go_wp2_with fail
                      go_roundw
                      case rel => exact ⟨i + 1, by go_num, by omega, hs⟩
                      case measure => simp [intOf]; omega
                · have hi16 : i = 16 := by omega
                  rw [hi16] at hs
                  clear hi16
                  have LX : Hid ((byv (outP A X 64)).length = 64) := Lib.hid (by rw [byv_len]; exact outP_len _ _ _)
                  have hs2 : Hid (Blk wr co 134 (byv (outP A X 64))) := hs.out.1
                  go_wp2_with (first | refine load_blk hs2.out Tryz.underlying134 rfl arr64_size LX.out rfl rfl rfl ?_ | refine store_blk hs.out.2.2.1 arr64_size LX.out rfl (byv_one _) rfl rfl rfl rfl ?_)
                  exact ret_blk rfl (hs.out.2.2.1.setRow _) Tryz.underlying134 rfl arr64_size LX.out rfl rfl ⟨by rw [show blockF Bg Or key ctr nonce = outP A X 64 by unfold blockF; rw [← HA.out, HX.out]], below_row hs.out.2.2.2.2 _ _ (by omega)⟩
end Go.Proofs.YtcbkbjpdfanjpaaGreatDoor
