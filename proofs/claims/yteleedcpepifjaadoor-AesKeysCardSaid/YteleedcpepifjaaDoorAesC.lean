/-
The document's block.
-/
import Derived.Test.YteleedcpepifjaaDoorAesV
namespace Go.Proofs.YteleedcpepifjaaDoor
open Go.RowKit AesP
set_option maxRecDepth 100000
theorem natL_at (s : ByteArray) {i : Nat} (h : i < s.size) : (natL s).getD i 0 = (s[i]'h).toNat := by
  rw [by_index s i h]
  unfold natL
  rw [List.getD_eq_getElem?_getD, List.getD_eq_getElem?_getD, List.getElem?_map]
  have hl : i < s.data.toList.length := by rw [Array.length_toList]; exact h
  rw [List.getElem?_eq_getElem hl]; rfl
/-- a slice of ints, told by its address -/
def Si (w : World) (g o n c : Nat) (l : List Nat) : Prop := Sg w 1 (.slice (some ⟨g, o, none⟩) n c) n (iv l)
theorem Si.below {w w' : World} {g o n c : Nat} {l : List Nat} (h : Si w g o n c l) (hb : Below w.heap.size w w') : Si w' g o n c l := Sg.below h hb
theorem Si.len {w : World} {g o n c : Nat} {l : List Nat} (h : Si w g o n c l) : l.length = n := by have := Sg.len h; rw [iv_len] at this; omega
theorem Si.lt {w : World} {g o n c : Nat} {l : List Nat} (h : Si w g o n c l) (hn : 0 < n) : g < w.heap.size := by
  obtain ⟨g9, o9, c9, hv9, -, -, -, hl, -, -⟩ := Sg.open h hn
  simp only [Value.slice.injEq, Option.some.injEq, Addr.mk.injEq, true_and, and_true] at hv9
  obtain ⟨⟨rfl, rfl⟩, -⟩ := hv9
  exact hl
theorem Si.at {w : World} {g o n c : Nat} {l : List Nat} (h : Si w g o n c l) {i : Nat} (hi : i < n) : w.cell? ⟨g, o + i, none⟩ = some (.int .i64 (l.getD i 0 : Nat)) ∧ w.frozen? ⟨g, o + i, none⟩ = false := by
  have hl := h.len
  obtain ⟨g9, o9, c9, hv9, -, -, -, -, hc, -⟩ := Sg.open h (show 0 < n by omega)
  simp only [Value.slice.injEq, Option.some.injEq, Addr.mk.injEq, true_and, and_true] at hv9
  obtain ⟨⟨rfl, rfl⟩, -⟩ := hv9
  have e := hc i (by omega)
  rw [iv_get l i (by omega)] at e
  exact e
theorem iv_set (l : List Nat) (i x : Nat) : (iv l).set i (.int .i64 (x : Nat)) = iv (l.set i x) := by simp [iv, List.map_set]
theorem Si.set {w : World} {g o n c : Nat} {l : List Nat} (h : Si w g o n c l) {i : Nat} (hi : i < n) (x : Nat) : Si (w.setCell ⟨g, o + i, none⟩ (.int .i64 (x : Nat))) g o n c (l.set i x) := by
  have e := Sg.set h i hi (.int .i64 (x : Nat))
  rw [iv_set] at e
  exact e
theorem Si.keep {w w' : World} {F : Nat → Prop} {g o n c : Nat} {l : List Nat} (h : Si w g o n c l) (hk : Keeps F w w') (hF : ¬ F g) : Si w' g o n c l :=
  Sg.keeps h hk (fun q hq => by
    have e : q = g := by
      by_cases hc : c = 0
      · simp [vblk, hc] at hq
      · simp [vblk, hc] at hq; omega
    rw [e]; exact hF)
theorem Si.far {w : World} {g o n c b x : Nat} {l : List Nat} {u : Value} (h : Si w g o n c l) (hg : b ≠ g) : Si (w.setCell ⟨b, x, none⟩ u) g o n c l :=
  h.keep ((Keeps.refl (fun k => k = b) w).set b x u (fun _ => rfl)) (fun e => hg e.symm)
theorem IO.si {w wr : World} {g o n c : Nat} {l : List Nat} (h : IO w wr (.slice (some ⟨g, o, none⟩) n c) l) (hl : l.length = n) : Si wr g o n c l := by
  have e := h.sg
  rw [hl] at e
  exact e
/-- what lies beside a growing slice -/
theorem Si.push {w wx wy : World} {v : Value} {g o n c : Nat} {l : List Nat} (h : Si w g o n c l) (hb : Below w.heap.size w wx) (hk : Keeps (fun k => vblk v = some k) wx wy) (hv : ∀ q, vblk v = some q → q ≠ g) : Si wy g o n c l :=
  (h.below hb).keep hk (fun e => hv g e rfl)
theorem step4 {w wa : World} {gt ot ct gs os cs gw ow NW cw k v : Nat} {f g : Nat → Nat} {S W : List Nat} (h : Si wa gt ot 16 ct (bl f g k 16) ∧ Si wa gs os 16 cs S ∧ Si wa gw ow NW cw W ∧ Below w.heap.size w wa)
    (hk : k < 16) (hgs : gt ≠ gs) (hgw : gt ≠ gw) (hown : w.heap.size ≤ gt) (hv : f k = v) :
    Si (wa.setCell ⟨gt, ot + k, none⟩ (.int .i64 (v : Nat))) gt ot 16 ct (bl f g (k + 1) 16) ∧ Si (wa.setCell ⟨gt, ot + k, none⟩ (.int .i64 (v : Nat))) gs os 16 cs S ∧ Si (wa.setCell ⟨gt, ot + k, none⟩ (.int .i64 (v : Nat))) gw ow NW cw W ∧ Below w.heap.size w (wa.setCell ⟨gt, ot + k, none⟩ (.int .i64 (v : Nat))) := by
  refine ⟨?_, h.2.1.far hgs, h.2.2.1.far hgw, below_set' h.2.2.2 _ _ _ hown⟩
  rw [← bl_set, hv]
  exact h.1.set hk v
theorem rsh_by {s : List Nat} (hs : By s) : By (rsh s) := By.ml fun _ _ => sub_lt (hs.get _)
theorem rmix_by {t : List Nat} (ht : By t) : By (rmix t) := by rw [rmix_eq ht]; exact m2_by ht
theorem rst_by {W b : List Nat} (hW : By W) (hb : By b) (r : Nat) : ∀ n, By (rst W b r n)
  | 0 => key_by hb hW
  | n + 1 => by
    show By (keyF _ _)
    refine key_by ?_ (hW.drop _)
    split
    · exact rmix_by (rsh_by (rst_by hW hb r n))
    · exact rsh_by (rst_by hW hb r n)
theorem b8_app (a b : List Nat) : b8 (a ++ b) = b8 a ++ b8 b := by simp [b8]
/-- a slice of bytes of the call's own -/
structure IB (w wr : World) (v : Value) (l : List Nat) : Prop where
  sg : Sg wr 1 v l.length (b8 l)
  own : ∀ g, vblk v = some g → w.heap.size ≤ g
  bel : Below w.heap.size w wr
theorem IB.below {w wr wx : World} {v : Value} {l : List Nat} (h : IB w wr v l) (hb : Below wr.heap.size wr wx) : IB w wx v l :=
  ⟨h.sg.below hb, h.own, h.bel.trans (hb.mono h.bel.size)⟩
theorem IB.app {w wr wx wy : World} {v v' : Value} {l m : List Nat} (h : IB w wr v l) (hb : Below wr.heap.size wr wx) (hs : Sg wy 1 v' (l.length + m.length) (b8 l ++ b8 m)) (hv : ∀ g, vblk v' = some g → vblk v = some g ∨ wx.heap.size ≤ g) (hk : Keeps (fun k => vblk v = some k) wx wy) : IB w wy v' (l ++ m) where
  sg := by rw [List.length_append, b8_app]; exact hs
  own := fun g hg => (hv g hg).elim (h.own g) (fun e => Nat.le_trans (Nat.le_trans h.bel.size hb.size) e)
  bel := (h.bel.trans (hb.mono h.bel.size)).trans (hk.below (Nat.le_trans h.bel.size hb.size) (fun k hk' e => by have := h.own k e; omega))
theorem u8I : ∃ i, Tryd.prog.info? 5 = some i ∧ i.zero = some (.int .u8 0) ∧ i.size = 1 ∧ i.bytes = 1 := by
  have h : (Tryd.prog.info? 5).map (fun i => (i.zero, i.size, i.bytes)) = some (some (.int .u8 0), 1, 1) := by kernel_rfl
  cases hi : Tryd.prog.info? 5 with
  | none => rw [hi] at h; cases h
  | some i =>
    rw [hi] at h
    simp only [Option.map_some, Option.some.injEq, Prod.mk.injEq] at h
    exact ⟨i, rfl, h.1, h.2.1, h.2.2⟩
theorem lit_b8 (w : World) (t : TypeId) (x : Nat) : Sg (w.alloc (.cells #[.int .u8 (x : Nat)] t)) 1 (.slice (some ⟨w.heap.size, 0, none⟩) 1 1) 1 (b8 [x]) := by
  have hb : Blk (w.alloc (.cells #[.int .u8 (x : Nat)] t)) w.heap.size t (b8 [x]) := Blk.new w t (b8 [x])
  refine ⟨rfl, _, 1, rfl, Nat.le_refl _, by decide, .inr ⟨w.heap.size, 0, rfl, hb.lt, fun j hj => ?_, fun j hj => ?_⟩⟩
  · obtain rfl : j = 0 := by omega
    exact ⟨by rw [hb.cell 0 _ rfl]; rfl, hb.free _⟩
  · obtain rfl : j = 0 := by omega
    exact hb.cell 0 _ rfl
theorem take_next {l : List Nat} {i : Nat} (h : i < l.length) : l.take i ++ [l.getD i 0] = l.take (i + 1) := by
  rw [List.take_add_one, List.getD_eq_getElem?_getD, List.getElem?_eq_getElem h]; rfl
set_option maxHeartbeats 8000000 in
theorem rblock_ok (key b : ByteArray) (n : Nat) (hn : n = 4 ∨ n = 6 ∨ n = 8) (hs : key.size = 4 * n) (hb : b.size = 16) (w : World) :
    Calls Tryd.prog 12 #[.string key, .string b] w fun e w' => e = .returned (.string (bsL (rst (kexp subN n (natL key) (3 * n + 28)).1 (natL b) (n + 6) (n + 6)))) ∧ Below w.heap.size w w' := by
  obtain ⟨i0, hi, hi0, hi1, hi2⟩ := intI
  have I := Lib.hid hi
  have I0 := Lib.hid hi0
  have I1 := Lib.hid hi1
  have I2 := Lib.hid hi2
  clear hi hi0 hi1 hi2
  obtain ⟨j0, hj, hj0, hj1, hj2⟩ := u8I
  have J := Lib.hid hj
  have J0 := Lib.hid hj0
  have J1 := Lib.hid hj1
  have J2 := Lib.hid hj2
  clear hj hj0 hj1 hj2
  have hW := (kexp_by (fun x hx => sub_lt hx) n (natL_by key) (3 * n + 28)).1
  have hWl := kexp_len subN n (natL key) (3 * n + 28)
  rw [natL_len, hs, show 4 * n + 4 * (3 * n + 28) = 16 * (n + 7) by omega] at hWl
  have hwok := words_ok key n hn hs w
  generalize (kexp subN n (natL key) (3 * n + 28)).1 = W at *
  have HN := Lib.hid hn
  have HS := Lib.hid hs
  have HB := Lib.hid hb
  have HWB := Lib.hid hW
  have HWL := Lib.hid hWl
  clear hn hs hb hW hWl
  go_enter Tryd.func12, Tryd.ntmps12
  go_wp2_with (go_at_call 28; refine hwok.mono ?_; rintro e w1 ⟨v5, rfl, h5⟩)
  obtain ⟨NW, hNW⟩ : ∃ q, q = 16 * (n + 7) := ⟨_, rfl⟩
  have HNW := Lib.hid hNW
  have hw16 : 16 ≤ NW := by omega
  have hw240 : NW ≤ 240 := by have := HN.out; omega
  have hWL2 : W.length = NW := by rw [HWL.out, hNW]
  have S5 := h5.sg
  rw [hWL2] at S5
  obtain ⟨gw, ow, cw, hv5, -, -, kvb, kg, -, -⟩ := S5.open (by omega)
  have hgw := h5.own gw kvb
  subst hv5
  have HW1 : Hid (Si w1 gw ow NW cw W ∧ Below w.heap.size w w1) := Lib.hid ⟨S5, h5.bel⟩
  clear hNW hWL2 S5 kvb h5
  have A1 := below1 w1 (.cells #[] 3)
  have HI : Hid (IO w (w1.alloc (.cells #[] 3)) (.slice (some ⟨w1.heap.size, 0, none⟩) 0 0) (ml 0 fun k => (natL b).getD k 0 ^^^ W.getD k 0) ∧ Si (w1.alloc (.cells #[] 3)) gw ow NW cw W ∧ ∀ q, vblk (.slice (some ⟨w1.heap.size, 0, none⟩) 0 0) = some q → q ≠ gw) :=
    Lib.hid ⟨⟨sg_empty _ _, fun g hg => by simp [vblk] at hg, HW1.out.2.trans (A1.mono HW1.out.2.size)⟩, HW1.out.1.below A1, fun q hq => by simp [vblk] at hq⟩
  clear A1
  go_loopw [6, 7] (fun v6 v7 wx => ∃ i : Nat, v7 = .int .i64 i ∧ i ≤ 16 ∧ Hid (IO w wx v6 (ml i fun k => (natL b).getD k 0 ^^^ W.getD k 0) ∧ Si wx gw ow NW cw W ∧ ∀ q, vblk v6 = some q → q ≠ gw)) (fun _ v _ => 16 - (intOf v).toNat)
  case atStart => exact ⟨0, rfl, by omega, HI.out⟩
  case round =>
    obtain ⟨i, rfl, hi, hr⟩ := hrel
    clear HI
    rcases Nat.lt_or_ge i 16 with h | h
    · have hib : i < b.size := by rw [HB.out]; exact h
      have hlk : (ml i fun k => (natL b).getD k 0 ^^^ W.getD k 0).length = i := ml_len ..
      have hmk := ml_succ i (fun k => (natL b).getD k 0 ^^^ W.getD k 0)
      have hxv := natL_at b hib
      have hx256 := (b[i]'hib).toNat_lt
      obtain ⟨y, hy⟩ : ∃ y, y = W.getD i 0 := ⟨_, rfl⟩
      have hy256 : y < 256 := by rw [hy]; exact HWB.out.get i
      have hxor := xor64 (b[i]'hib).toNat y (by omega) (by omega)
      rw [hxv, ← hy] at hmk
      have HY := Lib.hid hy
      have HMK := Lib.hid (And.intro hmk hxor)
      have HLK := Lib.hid hlk
      obtain ⟨M', hM'⟩ : ∃ M', M' = ml (i + 1) fun k => (natL b).getD k 0 ^^^ W.getD k 0 := ⟨_, rfl⟩
      obtain ⟨M, hM⟩ : ∃ M, M = ml i fun k => (natL b).getD k 0 ^^^ W.getD k 0 := ⟨_, rfl⟩
      rw [← hM, ← hM'] at HMK
      rw [← hM] at hr HLK
      have HM' := Lib.hid hM'
      clear hM hM'
      clear hmk hxor hxv hlk hy
      have CW : Hid (∀ w', Keeps (fun q => vblk u6 = some q) wr.drew w' → Si w' gw ow NW cw W) := by
        refine Lib.hid fun w' hw' => ?_
        exact Si.push hr.out.2.1 (below_drewN (Below.refl wr.heap.size wr) 1) hw' hr.out.2.2
      have OW : Hid (IO w wr.drew u6 M) := Lib.hid (hr.out.1.below (below_drewN (Below.refl wr.heap.size wr) 1))
      go_upto_region 6 with fail
      (refine Pl.wp_region_plan (fun q => vblk u6 = some q) [(true, 0), (true, 1), (true, 2), (true, 3), (true, 4), (true, 5), (true, 6), (true, 7), (true, 8), (true, 9), (false, 10), (false, 11), (false, 12)] (by kernel_rfl) (by kernel_rfl) ?_)
      (refine Pl.plan_head (i := 0) rfl (fun K hK => ?_); refine Pl.plan_plain (u6) (by first | rfl | simp [Region.wanted, yielded]) (fun w' hw' => by go_simp) ?_; go_simp; (with_reducible apply hK); clear hK K)
      (refine Pl.plan_head (i := 1) rfl (fun K hK => ?_); refine Pl.plan_plain (.string b) (by first | rfl | simp [Region.wanted, yielded]) (fun w' hw' => by go_simp) ?_; go_simp; (with_reducible apply hK); clear hK K)
      (refine Pl.plan_head (i := 2) rfl (fun K hK => ?_); refine Pl.plan_plain (.int .i64 (i : Nat)) (by first | rfl | simp [Region.wanted, yielded]) (fun w' hw' => by go_simp) ?_; go_simp; (with_reducible apply hK); clear hK K)
      (refine Pl.plan_head (i := 3) rfl (fun K hK => ?_); refine Pl.plan_plain (.int .u8 ((b[i]'hib).toNat : Nat)) (by first | rfl | simp [Region.wanted, yielded]) (fun w' hw' => by go_simp) ?_; go_simp; (with_reducible apply hK); clear hK K)
      (refine Pl.plan_head (i := 4) rfl (fun K hK => ?_); refine Pl.plan_plain (.int .i64 ((b[i]'hib).toNat : Nat)) (by first | rfl | simp [Region.wanted, yielded]) (fun w' hw' => by go_simp; rw [IntKind.wrap_i64]; omega) ?_; go_simp; (with_reducible apply hK); clear hK K)
      (refine Pl.plan_head (i := 5) rfl (fun K hK => ?_); refine Pl.plan_plain (.slice (some ⟨gw, ow, none⟩) NW cw) (by first | rfl | simp [Region.wanted, yielded]) (fun w' hw' => by go_simp) ?_; go_simp; (with_reducible apply hK); clear hK K)
      (refine Pl.plan_head (i := 6) rfl (fun K hK => ?_); refine Pl.plan_plain (.int .i64 (i : Nat)) (by first | rfl | simp [Region.wanted, yielded]) (fun w' hw' => by go_simp) ?_; go_simp; (with_reducible apply hK); clear hK K)
      (refine Pl.plan_head (i := 7) rfl (fun K hK => ?_); refine Pl.plan_plain (.pointer (some ⟨gw, ow + i, none⟩)) (by first | rfl | simp [Region.wanted, yielded]) (fun w' hw' => by go_simp; try (intro hh; omega)) ?_; go_simp; (with_reducible apply hK); clear hK K)
      (refine Pl.plan_head (i := 8) rfl (fun K hK => ?_); refine Pl.plan_plain (.int .i64 (y : Nat)) (by first | rfl | simp [Region.wanted, yielded]) (fun w' hw' => by have e := ((CW.out _ hw').at (show i < NW by omega)).1; rw [← HY.out] at e; go_simp) ?_; go_simp; (with_reducible apply hK); clear hK K)
      (refine Pl.plan_head (i := 9) rfl (fun K hK => ?_); refine Pl.plan_plain (.int .i64 ((b[i]'hib).toNat ^^^ y : Nat)) (by first | rfl | simp [Region.wanted, yielded]) (fun w' hw' => by have e := HMK.out.2; go_simp; try simp [e]) ?_; go_simp; (with_reducible apply hK); clear hK K)
      generalize (b[i]'hib).toNat ^^^ y = z at *
      refine Pl.plan_sole (i := 10) rfl (fun w2 h2 Q2 hQ2 => ?_)
      have K2 := Lib.hid (((Keeps.refl (fun q => vblk u6 = some q) wr.drew).rw h2).alloc (.cells #[.int .i64 (z : Nat)] 3))
      go_wp2_with fail
      refine hQ2 _ _ K2.out ?_
      clear hQ2 Q2
      refine Pl.plan_sole (i := 11) rfl (fun w3 h3 Q3 hQ3 => ?_)
      have BA := Rw.trans (Rw.trans h2 (below1 w2 (.cells #[.int .i64 (z : Nat)] 3))) h3
      have HA := Lib.hid (And.intro BA (K2.out.rw h3))
      have SV := Lib.hid (OW.out.sg.below BA)
      have SL := Lib.hid ((lit_int w2 3 z).below h3)
      have b1 : M.length + 1 ≤ maxLen := by rw [HLK.out]; unfold maxLen; omega
      have b2 : (M.length + 1) * 8 ≤ 140737488355328 := by rw [HLK.out]; omega
      have HBB := Lib.hid (And.intro b1 b2)
      clear b1 b2 BA h2 h3 K2
      go_simp
      refine wpList_append_any _ rfl (.tmp 28) (.tmp 38) 64 rfl 3 i0 (.int .i64 0) 1 8 Tryd.underlying64 I.out I0.out I1.out I2.out rfl (by decide) u6 M.length _ rfl SV.out (.slice (some ⟨w2.heap.size, 0, none⟩) 1 1) 1 _ rfl SL.out (iv_one _) HBB.out.1 HBB.out.2 ?grow
      case grow =>
        intro vo' w4 hs4 hv4 hk4
        have K4 : Keeps (fun q => vblk u6 = some q) wr.drew w4 := HA.out.2.trans hk4 (fun q _ hq => hq)
        have W4 := CW.out w4 K4
        have N4 : IO w w4 vo' M' := by
          rw [← HMK.out.1]
          exact OW.out.app (m := [z]) HA.out.1 hs4 hv4 hk4
        have V4 : ∀ q, vblk vo' = some q → q ≠ gw := fun q hq => by
          rcases hv4 q hq with h | h
          · exact hr.out.2.2 q h
          · have e1 := HA.out.1.size
            have e2 := (show Rw wr wr.drew from below_drewN (Below.refl wr.heap.size wr) 1).size
            have e3 := hr.out.2.1.lt (by omega)
            omega
        have HALL := Lib.hid (And.intro N4 (And.intro W4 V4))
        have HK4 := Lib.hid K4
        clear hs4 hv4 hk4 K4 W4 N4 V4 hr HA SV SL OW CW
        go_wp2_with fail
        refine hQ3 _ _ HK4.out ?_
        clear hQ3 Q3
        refine Pl.plan_sole (i := 12) rfl (fun w5 h5 Q5 hQ5 => ?_)
        have HK5 := Lib.hid (HK4.out.rw h5)
        have HALL5 := Lib.hid (And.intro (HALL.out.1.below h5) (And.intro (HALL.out.2.1.below h5) HALL.out.2.2))
        clear HALL HK4 h5
        go_wp2_with fail
        refine hQ5 _ _ HK5.out ?_
        clear hQ5 Q5
        refine Pl.plan_nil (fun w6 h6 => ?_)
        have HALL6 := Lib.hid (And.intro (HALL5.out.1.below h6) (And.intro (HALL5.out.2.1.below h6) HALL5.out.2.2))
        clear HALL5 HK5 h6
        go_wp2_with fail
        go_roundw
        case rel => exact ⟨i + 1, by go_num, by omega, Lib.hid (by rw [← HM'.out]; exact HALL6.out)⟩
        case measure => simp [intOf]; omega
    · have h16 : i = 16 := by omega
      rw [h16] at hr
      clear h16
      have hl6 : (ml 16 fun k => (natL b).getD k 0 ^^^ W.getD k 0).length = 16 := ml_len ..
      have S6 := hr.out.1.sg
      rw [hl6] at S6
      obtain ⟨gs, os, cs, hv6, -, -, kvb, -, -, -⟩ := S6.open (by omega)
      have hne : gs ≠ gw := hr.out.2.2 gs kvb
      have hgs := hr.out.1.own gs kvb
      subst hv6
      obtain ⟨R, hR⟩ : ∃ R, R = n + 6 := ⟨_, rfl⟩
      have HRN := Lib.hid hR
      have H6 : Hid (Si wr gs os 16 cs (rst W (natL b) (n + 6) 0) ∧ Si wr gw ow NW cw W ∧ Below w.heap.size w wr) := Lib.hid ⟨S6, hr.out.2.1, hr.out.1.bel⟩
      rw [← hR] at H6
      clear S6 hr kvb hl6 hR
      have hs := HS.out
      have hn4 : 4 ≤ n ∧ n ≤ 8 := by have := HN.out; omega
      have hR10 : 10 ≤ R ∧ R ≤ 14 := by have := HRN.out; omega
      have hRW : 16 * R + 16 = NW := by have := HRN.out; have := HNW.out; omega
      have HRW := Lib.hid hRW
      clear hRW
      go_upto_region 8 with fail
      rw [show decide ((i : Int) < 16) = false from decide_eq_false (by omega), show ((n : Int) + 6) = (R : Int) by have := HRN.out; omega]
      clear hs h hi
      go_upto_region 9 with fail
      go_loopw [9] (fun v9 wx => ∃ m : Nat, v9 = .int .i64 ((m : Int) + 1) ∧ m ≤ R ∧ Hid (Si wx gs os 16 cs (rst W (natL b) R m) ∧ Si wx gw ow NW cw W ∧ Below w.heap.size w wx)) (fun v _ => 20 - (intOf v).toNat)
      case atStart => exact ⟨0, rfl, by omega, H6⟩
      case round =>
        obtain ⟨m, rfl, hm, hq⟩ := hrel
        clear H6
        have HNX : Hid (rst W (natL b) R (m + 1) = keyF (if m + 1 < R then rmix (rsh (rst W (natL b) R m)) else rsh (rst W (natL b) R m)) (W.drop (16 * (m + 1)))) := Lib.hid rfl
        have HEX : Hid (∀ q, q = m → rst W (natL b) R q = rst W (natL b) R m) := Lib.hid (fun q e => by rw [e])
        obtain ⟨S, hS⟩ : ∃ S, S = rst W (natL b) R m := ⟨_, rfl⟩
        rw [← hS] at hq HNX HEX
        have hSB : Hid (By S) := Lib.hid (by rw [hS]; exact rst_by HWB.out (natL_by b) R m)
        clear hS
        rcases Nat.lt_or_ge m R with h | h
        · have A3 := below1 wr (.cells #[] 3)
          have H3 : Hid (IO w (wr.alloc (.cells #[] 3)) (.slice (some ⟨wr.heap.size, 0, none⟩) 0 0) (ml 0 fun k => subN (S.getD ((k + 4 * (k % 4)) % 16) 0)) ∧ Si (wr.alloc (.cells #[] 3)) gs os 16 cs S ∧ Si (wr.alloc (.cells #[] 3)) gw ow NW cw W ∧ ∀ q, vblk (.slice (some ⟨wr.heap.size, 0, none⟩) 0 0) = some q → q ≠ gs ∧ q ≠ gw) :=
            Lib.hid ⟨⟨sg_empty _ _, fun g hg => by simp [vblk] at hg, hq.out.2.2.trans (A3.mono hq.out.2.2.size)⟩, hq.out.1.below A3, hq.out.2.1.below A3, fun q hq => by simp [vblk] at hq⟩
          clear A3 hq
          go_upto_region 13 with fail
          rw [show decide ((m : Int) + 1 ≤ (R : Int)) = true from decide_eq_true (by omega)]
          go_loopw [10, 11] (fun v10 v11 wx => ∃ k : Nat, v11 = .int .i64 k ∧ k ≤ 16 ∧ Hid (IO w wx v10 (ml k fun k => subN (S.getD ((k + 4 * (k % 4)) % 16) 0)) ∧ Si wx gs os 16 cs S ∧ Si wx gw ow NW cw W ∧ ∀ q, vblk v10 = some q → q ≠ gs ∧ q ≠ gw)) (fun _ v _ => 16 - (intOf v).toNat)
          case atStart => exact ⟨0, rfl, by omega, H3.out⟩
          case round =>
            obtain ⟨k, rfl, hk, hr⟩ := hrel
            clear H3
            rcases Nat.lt_or_ge k 16 with h' | h'
            · obtain ⟨q, hq⟩ : ∃ q, q = (k + 4 * (k % 4)) % 16 := ⟨_, rfl⟩
              have hqi : ((k : Int) + 4 * ((k : Int) % 4)) % 16 = (q : Int) := by omega
              have hq16 : q < 16 := by omega
              obtain ⟨x, hx⟩ : ∃ x, x = S.getD q 0 := ⟨_, rfl⟩
              have hmk := ml_succ k (fun k => subN (S.getD ((k + 4 * (k % 4)) % 16) 0))
              try dsimp only at hmk
              rw [← hq, ← hx] at hmk
              obtain ⟨M', hM'⟩ : ∃ M', M' = ml (k + 1) fun k => subN (S.getD ((k + 4 * (k % 4)) % 16) 0) := ⟨_, rfl⟩
              obtain ⟨M, hM⟩ : ∃ M, M = ml k fun k => subN (S.getD ((k + 4 * (k % 4)) % 16) 0) := ⟨_, rfl⟩
              rw [← hM, ← hM'] at hmk
              rw [← hM] at hr
              have hlk : M.length = k := by rw [hM]; exact ml_len ..
              have HM' := Lib.hid hM'
              have HMK := Lib.hid hmk
              have c63 := (hr.out.2.1.at hq16).1
              rw [← hx] at c63
              clear hM hM' hmk hq hx
              obtain ⟨z, hz⟩ : ∃ z, z = subN x := ⟨_, rfl⟩
              have hsub := fun w' => rsub_ok x w'
              rw [← hz] at hsub HMK
              have HSU := Lib.hid hsub
              clear hsub hz
              have SV := Lib.hid (hr.out.1.sg.below (below1 wr (.cells #[.int .i64 (z : Nat)] 3)))
              have SL := Lib.hid (lit_int wr 3 z)
              have b1 : M.length + 1 ≤ maxLen := by rw [hlk]; unfold maxLen; omega
              have b2 : (M.length + 1) * 8 ≤ 140737488355328 := by rw [hlk]; omega
              have HBB := Lib.hid (And.intro b1 b2)
              clear b1 b2 hlk
              go_upto_region 15 with fail
              go_wp2_with (first | (go_at_call 29; refine (HSU.out _).mono ?_; rintro e w' ⟨rfl, rfl⟩) | (at_builtin; refine wpList_append_any _ rfl (.tmp 54) (.tmp 65) 64 rfl 3 i0 (.int .i64 0) 1 8 Tryd.underlying64 I.out I0.out I1.out I2.out rfl (by decide) u10 M.length _ rfl SV.out (.slice (some ⟨wr.heap.size, 0, none⟩) 1 1) 1 _ rfl SL.out (iv_one _) HBB.out.1 HBB.out.2 ?grow))
              case grow =>
                intro vo' w4 hs4 hv4 hk4
                have D := below1 wr (.cells #[.int .i64 (z : Nat)] 3)
                have N4 : IO w w4 vo' M' := by
                  rw [← HMK.out]
                  exact hr.out.1.app (m := [z]) D hs4 (fun g hg => by simpa using hv4 g hg) hk4
                have V4 : ∀ q, vblk vo' = some q → q ≠ gs ∧ q ≠ gw := fun q hq => by
                  rcases hv4 q hq with h | h
                  · exact hr.out.2.2.2 q h
                  · have e1 := D.size
                    have e3 := hr.out.2.1.lt (by omega)
                    have e4 := hr.out.2.2.1.lt (by omega)
                    omega
                have HALL := Lib.hid (And.intro N4 (And.intro (Si.push hr.out.2.1 D hk4 (fun q hq => (hr.out.2.2.2 q hq).1)) (And.intro (Si.push hr.out.2.2.1 D hk4 (fun q hq => (hr.out.2.2.2 q hq).2)) V4)))
                clear hs4 hv4 hk4 N4 V4 hr SV SL D c63
                go_wp2_with fail
                go_roundw
                case rel => exact ⟨k + 1, by go_num, by omega, Lib.hid (by rw [← HM'.out]; exact HALL.out)⟩
                case measure => simp [intOf]; omega
            · have h16 : k = 16 := by omega
              rw [h16] at hr
              rw [show (ml 16 fun k => subN (S.getD ((k + 4 * (k % 4)) % 16) 0)) = rsh S from rfl] at hr
              have hTB : Hid (By (rsh S)) := Lib.hid (rsh_by hSB.out)
              have hTl : (rsh S).length = 16 := ml_len ..
              generalize rsh S = T at *
              have S10 := hr.out.1.sg
              rw [hTl] at S10
              obtain ⟨gt, ot, ct, hv10, -, -, kvb, -, -, -⟩ := S10.open (by omega)
              have hnt := hr.out.2.2.2 gt kvb
              have hgt := hr.out.1.own gt kvb
              subst hv10
              have hT0 : bl (fun i => (rcol T (i / 4)).getD (i % 4) 0) (fun i => T.getD i 0) (4 * 0) 16 = T := by rw [Nat.mul_zero, bl_zero]; exact ml_eta hTl
              have H4 : Hid (Si wr gt ot 16 ct (bl (fun i => (rcol T (i / 4)).getD (i % 4) 0) (fun i => T.getD i 0) (4 * 0) 16) ∧ Si wr gs os 16 cs S ∧ Si wr gw ow NW cw W ∧ Below w.heap.size w wr) := Lib.hid ⟨by rw [hT0]; exact S10, hr.out.2.1, hr.out.2.2.1, hr.out.1.bel⟩
              have hTl := Lib.hid hTl
              clear hT0 S10 kvb hr h16
              go_upto_region 16 with fail
              rw [show decide ((k : Int) < 16) = false from decide_eq_false (by omega)]
              clear h' hk
              go_upto_region 17 with fail
              go_loopw [12] (fun v12 wx => ∃ c : Nat, v12 = .int .i64 c ∧ c ≤ 4 ∧ (c = 0 ∨ m + 1 < R) ∧ Hid (Si wx gt ot 16 ct (bl (fun i => (rcol T (i / 4)).getD (i % 4) 0) (fun i => T.getD i 0) (4 * c) 16) ∧ Si wx gs os 16 cs S ∧ Si wx gw ow NW cw W ∧ Below w.heap.size w wx)) (fun v _ => 4 - (intOf v).toNat)
              case atStart => exact ⟨0, rfl, by omega, .inl rfl, H4⟩
              case round =>
                obtain ⟨c, rfl, hc, hc0, hr⟩ := hrel
                clear H4
                go_upto_region 17 with fail
                go_cut [73] (fun v wx => v = .bool (decide (c < 4 ∧ m + 1 < R)) ∧ wr = wx)
                case first =>
                  rcases Nat.lt_or_ge c 4 with h4 | h4
                  · rcases Nat.lt_or_ge (m + 1) R with hmr | hmr
                    · have HD := Lib.hid (decide_eq_true (And.intro h4 hmr))
                      go_wp2_with fail
                      go_meet
                      exact ⟨by rw [HD.out]; exact congrArg Value.bool (decide_eq_true (by omega)), rfl⟩
                    · have hd : ((m : Int) + 1 < (R : Int)) = False := eq_false (by omega)
                      have HD := Lib.hid (decide_eq_false (show ¬ (c < 4 ∧ m + 1 < R) from fun h => absurd h.2 (by omega)))
                      go_wp2_with fail
                      go_meet
                      exact ⟨by rw [HD.out], rfl⟩
                  · have hd : ((c : Int) < 4) = False := eq_false (by omega)
                    have HD := Lib.hid (decide_eq_false (show ¬ (c < 4 ∧ m + 1 < R) from fun h => absurd h.1 (by omega)))
                    go_wp2_with fail
                    go_meet
                    exact ⟨by rw [HD.out], rfl⟩
                case rest =>
                 obtain ⟨rfl, rfl⟩ := hcut
                 by_cases hcc : c < 4 ∧ m + 1 < R
                 · obtain ⟨h4, hmr⟩ := hcc
                   rw [decide_eq_true (And.intro h4 hmr)]
                   obtain ⟨f, hf⟩ : ∃ f : Nat → Nat, f = fun i => (rcol T (i / 4)).getD (i % 4) 0 := ⟨_, rfl⟩
                   obtain ⟨g, hg⟩ : ∃ g : Nat → Nat, g = fun i => T.getD i 0 := ⟨_, rfl⟩
                   rw [← hf, ← hg] at hr
                   obtain ⟨t0, ht0⟩ : ∃ x, x = T.getD (4 * c) 0 := ⟨_, rfl⟩
                   have lt0 : t0 < 256 := by rw [ht0]; exact hTB.out.get _
                   have ct0 : wr.cell? ⟨gt, ot + (4 * c), none⟩ = some (.int .i64 (t0 : Nat)) := by rw [(hr.out.1.at (i := 4 * c) (by omega)).1, bl_old f g (by omega) (by omega), hg, ht0]
                   obtain ⟨p0, hp0⟩ : ∃ x, x = mul 2 t0 := ⟨_, rfl⟩
                   obtain ⟨q0, hq0⟩ : ∃ x, x = mul 3 t0 := ⟨_, rfl⟩
                   have lp0 : p0 < 256 := by rw [hp0]; exact mul_lt _ (by decide)
                   have lq0 : q0 < 256 := by rw [hq0]; exact mul_lt _ (by decide)
                   have kp0 : ∀ w', Calls Tryd.prog 30 #[.int .i64 2, .int .i64 (t0 : Nat)] w' (fun e w'' => e = .returned (.int .i64 (mul 2 t0 : Nat)) ∧ w' = w'') := fun w' => rmul_ok 2 t0 (by decide) w'
                   rw [← hp0] at kp0
                   have kq0 : ∀ w', Calls Tryd.prog 30 #[.int .i64 3, .int .i64 (t0 : Nat)] w' (fun e w'' => e = .returned (.int .i64 (mul 3 t0 : Nat)) ∧ w' = w'') := fun w' => rmul_ok 3 t0 (by decide) w'
                   rw [← hq0] at kq0
                   have KP0 := Lib.hid kp0
                   have KQ0 := Lib.hid kq0
                   clear kp0 kq0
                   obtain ⟨t1, ht1⟩ : ∃ x, x = T.getD (4 * c + 1) 0 := ⟨_, rfl⟩
                   have lt1 : t1 < 256 := by rw [ht1]; exact hTB.out.get _
                   have ct1 : wr.cell? ⟨gt, ot + (4 * c + 1), none⟩ = some (.int .i64 (t1 : Nat)) := by rw [(hr.out.1.at (i := 4 * c + 1) (by omega)).1, bl_old f g (by omega) (by omega), hg, ht1]
                   obtain ⟨p1, hp1⟩ : ∃ x, x = mul 2 t1 := ⟨_, rfl⟩
                   obtain ⟨q1, hq1⟩ : ∃ x, x = mul 3 t1 := ⟨_, rfl⟩
                   have lp1 : p1 < 256 := by rw [hp1]; exact mul_lt _ (by decide)
                   have lq1 : q1 < 256 := by rw [hq1]; exact mul_lt _ (by decide)
                   have kp1 : ∀ w', Calls Tryd.prog 30 #[.int .i64 2, .int .i64 (t1 : Nat)] w' (fun e w'' => e = .returned (.int .i64 (mul 2 t1 : Nat)) ∧ w' = w'') := fun w' => rmul_ok 2 t1 (by decide) w'
                   rw [← hp1] at kp1
                   have kq1 : ∀ w', Calls Tryd.prog 30 #[.int .i64 3, .int .i64 (t1 : Nat)] w' (fun e w'' => e = .returned (.int .i64 (mul 3 t1 : Nat)) ∧ w' = w'') := fun w' => rmul_ok 3 t1 (by decide) w'
                   rw [← hq1] at kq1
                   have KP1 := Lib.hid kp1
                   have KQ1 := Lib.hid kq1
                   clear kp1 kq1
                   obtain ⟨t2, ht2⟩ : ∃ x, x = T.getD (4 * c + 2) 0 := ⟨_, rfl⟩
                   have lt2 : t2 < 256 := by rw [ht2]; exact hTB.out.get _
                   have ct2 : wr.cell? ⟨gt, ot + (4 * c + 2), none⟩ = some (.int .i64 (t2 : Nat)) := by rw [(hr.out.1.at (i := 4 * c + 2) (by omega)).1, bl_old f g (by omega) (by omega), hg, ht2]
                   obtain ⟨p2, hp2⟩ : ∃ x, x = mul 2 t2 := ⟨_, rfl⟩
                   obtain ⟨q2, hq2⟩ : ∃ x, x = mul 3 t2 := ⟨_, rfl⟩
                   have lp2 : p2 < 256 := by rw [hp2]; exact mul_lt _ (by decide)
                   have lq2 : q2 < 256 := by rw [hq2]; exact mul_lt _ (by decide)
                   have kp2 : ∀ w', Calls Tryd.prog 30 #[.int .i64 2, .int .i64 (t2 : Nat)] w' (fun e w'' => e = .returned (.int .i64 (mul 2 t2 : Nat)) ∧ w' = w'') := fun w' => rmul_ok 2 t2 (by decide) w'
                   rw [← hp2] at kp2
                   have kq2 : ∀ w', Calls Tryd.prog 30 #[.int .i64 3, .int .i64 (t2 : Nat)] w' (fun e w'' => e = .returned (.int .i64 (mul 3 t2 : Nat)) ∧ w' = w'') := fun w' => rmul_ok 3 t2 (by decide) w'
                   rw [← hq2] at kq2
                   have KP2 := Lib.hid kp2
                   have KQ2 := Lib.hid kq2
                   clear kp2 kq2
                   obtain ⟨t3, ht3⟩ : ∃ x, x = T.getD (4 * c + 3) 0 := ⟨_, rfl⟩
                   have lt3 : t3 < 256 := by rw [ht3]; exact hTB.out.get _
                   have ct3 : wr.cell? ⟨gt, ot + (4 * c + 3), none⟩ = some (.int .i64 (t3 : Nat)) := by rw [(hr.out.1.at (i := 4 * c + 3) (by omega)).1, bl_old f g (by omega) (by omega), hg, ht3]
                   obtain ⟨p3, hp3⟩ : ∃ x, x = mul 2 t3 := ⟨_, rfl⟩
                   obtain ⟨q3, hq3⟩ : ∃ x, x = mul 3 t3 := ⟨_, rfl⟩
                   have lp3 : p3 < 256 := by rw [hp3]; exact mul_lt _ (by decide)
                   have lq3 : q3 < 256 := by rw [hq3]; exact mul_lt _ (by decide)
                   have kp3 : ∀ w', Calls Tryd.prog 30 #[.int .i64 2, .int .i64 (t3 : Nat)] w' (fun e w'' => e = .returned (.int .i64 (mul 2 t3 : Nat)) ∧ w' = w'') := fun w' => rmul_ok 2 t3 (by decide) w'
                   rw [← hp3] at kp3
                   have kq3 : ∀ w', Calls Tryd.prog 30 #[.int .i64 3, .int .i64 (t3 : Nat)] w' (fun e w'' => e = .returned (.int .i64 (mul 3 t3 : Nat)) ∧ w' = w'') := fun w' => rmul_ok 3 t3 (by decide) w'
                   rw [← hq3] at kq3
                   have KP3 := Lib.hid kp3
                   have KQ3 := Lib.hid kq3
                   clear kp3 kq3
                   have e0a := xor64 p0 q1 (by omega) (by omega)
                   have l0a := xor_lt lp0 lq1
                   have e0b := xor64 (p0 ^^^ q1) t2 (by omega) (by omega)
                   have l0b := xor_lt l0a lt2
                   have e0c := xor64 (p0 ^^^ q1 ^^^ t2) t3 (by omega) (by omega)
                   have f0 : f (4 * c) = p0 ^^^ q1 ^^^ t2 ^^^ t3 := by rw [hf]; show (rcol T ((4 * c) / 4)).getD ((4 * c) % 4) 0 = _; rw [show (4 * c) / 4 = c by omega, show (4 * c) % 4 = 0 by omega, hp0, hq1, ht0, ht1, ht2, ht3]; rfl
                   have HE0 := Lib.hid (And.intro e0a (And.intro e0b (And.intro e0c f0)))
                   clear e0a e0b e0c f0 l0a l0b
                   have e1a := xor64 t0 p1 (by omega) (by omega)
                   have l1a := xor_lt lt0 lp1
                   have e1b := xor64 (t0 ^^^ p1) q2 (by omega) (by omega)
                   have l1b := xor_lt l1a lq2
                   have e1c := xor64 (t0 ^^^ p1 ^^^ q2) t3 (by omega) (by omega)
                   have f1 : f (4 * c + 1) = t0 ^^^ p1 ^^^ q2 ^^^ t3 := by rw [hf]; show (rcol T ((4 * c + 1) / 4)).getD ((4 * c + 1) % 4) 0 = _; rw [show (4 * c + 1) / 4 = c by omega, show (4 * c + 1) % 4 = 1 by omega, hp1, hq2, ht0, ht1, ht2, ht3]; rfl
                   have HE1 := Lib.hid (And.intro e1a (And.intro e1b (And.intro e1c f1)))
                   clear e1a e1b e1c f1 l1a l1b
                   have e2a := xor64 t0 t1 (by omega) (by omega)
                   have l2a := xor_lt lt0 lt1
                   have e2b := xor64 (t0 ^^^ t1) p2 (by omega) (by omega)
                   have l2b := xor_lt l2a lp2
                   have e2c := xor64 (t0 ^^^ t1 ^^^ p2) q3 (by omega) (by omega)
                   have f2 : f (4 * c + 2) = t0 ^^^ t1 ^^^ p2 ^^^ q3 := by rw [hf]; show (rcol T ((4 * c + 2) / 4)).getD ((4 * c + 2) % 4) 0 = _; rw [show (4 * c + 2) / 4 = c by omega, show (4 * c + 2) % 4 = 2 by omega, hp2, hq3, ht0, ht1, ht2, ht3]; rfl
                   have HE2 := Lib.hid (And.intro e2a (And.intro e2b (And.intro e2c f2)))
                   clear e2a e2b e2c f2 l2a l2b
                   have e3a := xor64 q0 t1 (by omega) (by omega)
                   have l3a := xor_lt lq0 lt1
                   have e3b := xor64 (q0 ^^^ t1) t2 (by omega) (by omega)
                   have l3b := xor_lt l3a lt2
                   have e3c := xor64 (q0 ^^^ t1 ^^^ t2) p3 (by omega) (by omega)
                   have f3 : f (4 * c + 3) = q0 ^^^ t1 ^^^ t2 ^^^ p3 := by rw [hf]; show (rcol T ((4 * c + 3) / 4)).getD ((4 * c + 3) % 4) 0 = _; rw [show (4 * c + 3) / 4 = c by omega, show (4 * c + 3) % 4 = 3 by omega, hq0, hp3, ht0, ht1, ht2, ht3]; rfl
                   have HE3 := Lib.hid (And.intro e3a (And.intro e3b (And.intro e3c f3)))
                   clear e3a e3b e3c f3 l3a l3b
                   clear hp0 hq0 ht0 lp0 lq0 lt0
                   clear hp1 hq1 ht1 lp1 lq1 lt1
                   clear hp2 hq2 ht2 lp2 lq2 lt2
                   clear hp3 hq3 ht3 lp3 lq3 lt3
                   have HFG := Lib.hid (And.intro hf hg)
                   clear hf hg
                   go_upto_region 19 with fail
                   go_region
                   go_upto_region 20 with fail
                   clear ct0 ct1 ct2 ct3
                   have D0 := below_drewN (Below.refl wr.heap.size wr) 1
                   have H0 : Hid (Si wr.drew gt ot 16 ct (bl f g (4 * c) 16) ∧ Si wr.drew gs os 16 cs S ∧ Si wr.drew gw ow NW cw W ∧ Below w.heap.size w wr.drew) := Lib.hid ⟨hr.out.1.below D0, hr.out.2.1.below D0, hr.out.2.2.1.below D0, hr.out.2.2.2.trans (D0.mono hr.out.2.2.2.size)⟩
                   clear hr D0
                   generalize wr.drew = wa0 at *
                   have a0 := (H0.out.1.at (i := 4 * c) (by omega)).1
                   have b0 := (H0.out.1.at (i := 4 * c) (by omega)).2
                   have H1 := Lib.hid (step4 H0.out (by omega) hnt.1 hnt.2 hgt HE0.out.2.2.2)
                   clear H0
                   go_upto_region 21 with (first | (go_at_call 30; with_reducible refine (KP0.out _).mono ?_; rintro e w' ⟨rfl, rfl⟩) | (go_at_call 30; with_reducible refine (KQ0.out _).mono ?_; rintro e w' ⟨rfl, rfl⟩) | (go_at_call 30; with_reducible refine (KP1.out _).mono ?_; rintro e w' ⟨rfl, rfl⟩) | (go_at_call 30; with_reducible refine (KQ1.out _).mono ?_; rintro e w' ⟨rfl, rfl⟩) | (go_at_call 30; with_reducible refine (KP2.out _).mono ?_; rintro e w' ⟨rfl, rfl⟩) | (go_at_call 30; with_reducible refine (KQ2.out _).mono ?_; rintro e w' ⟨rfl, rfl⟩) | (go_at_call 30; with_reducible refine (KP3.out _).mono ?_; rintro e w' ⟨rfl, rfl⟩) | (go_at_call 30; with_reducible refine (KQ3.out _).mono ?_; rintro e w' ⟨rfl, rfl⟩))
                   rw [HE0.out.1, HE0.out.2.1, HE0.out.2.2.1]
                   clear a0 b0 HE0
                   generalize World.setCell wa0 _ _ = wa1 at *
                   have a1 := (H1.out.1.at (i := 4 * c + 1) (by omega)).1
                   have b1 := (H1.out.1.at (i := 4 * c + 1) (by omega)).2
                   have H2 := Lib.hid (step4 H1.out (by omega) hnt.1 hnt.2 hgt HE1.out.2.2.2)
                   clear H1
                   go_upto_region 22 with (first | (go_at_call 30; with_reducible refine (KP0.out _).mono ?_; rintro e w' ⟨rfl, rfl⟩) | (go_at_call 30; with_reducible refine (KQ0.out _).mono ?_; rintro e w' ⟨rfl, rfl⟩) | (go_at_call 30; with_reducible refine (KP1.out _).mono ?_; rintro e w' ⟨rfl, rfl⟩) | (go_at_call 30; with_reducible refine (KQ1.out _).mono ?_; rintro e w' ⟨rfl, rfl⟩) | (go_at_call 30; with_reducible refine (KP2.out _).mono ?_; rintro e w' ⟨rfl, rfl⟩) | (go_at_call 30; with_reducible refine (KQ2.out _).mono ?_; rintro e w' ⟨rfl, rfl⟩) | (go_at_call 30; with_reducible refine (KP3.out _).mono ?_; rintro e w' ⟨rfl, rfl⟩) | (go_at_call 30; with_reducible refine (KQ3.out _).mono ?_; rintro e w' ⟨rfl, rfl⟩))
                   rw [HE1.out.1, HE1.out.2.1, HE1.out.2.2.1]
                   clear a1 b1 HE1
                   generalize World.setCell wa1 _ _ = wa2 at *
                   have a2 := (H2.out.1.at (i := 4 * c + 2) (by omega)).1
                   have b2 := (H2.out.1.at (i := 4 * c + 2) (by omega)).2
                   have H3 := Lib.hid (step4 H2.out (by omega) hnt.1 hnt.2 hgt HE2.out.2.2.2)
                   clear H2
                   go_upto_region 23 with (first | (go_at_call 30; with_reducible refine (KP0.out _).mono ?_; rintro e w' ⟨rfl, rfl⟩) | (go_at_call 30; with_reducible refine (KQ0.out _).mono ?_; rintro e w' ⟨rfl, rfl⟩) | (go_at_call 30; with_reducible refine (KP1.out _).mono ?_; rintro e w' ⟨rfl, rfl⟩) | (go_at_call 30; with_reducible refine (KQ1.out _).mono ?_; rintro e w' ⟨rfl, rfl⟩) | (go_at_call 30; with_reducible refine (KP2.out _).mono ?_; rintro e w' ⟨rfl, rfl⟩) | (go_at_call 30; with_reducible refine (KQ2.out _).mono ?_; rintro e w' ⟨rfl, rfl⟩) | (go_at_call 30; with_reducible refine (KP3.out _).mono ?_; rintro e w' ⟨rfl, rfl⟩) | (go_at_call 30; with_reducible refine (KQ3.out _).mono ?_; rintro e w' ⟨rfl, rfl⟩))
                   rw [HE2.out.1, HE2.out.2.1, HE2.out.2.2.1]
                   clear a2 b2 HE2
                   generalize World.setCell wa2 _ _ = wa3 at *
                   have a3 := (H3.out.1.at (i := 4 * c + 3) (by omega)).1
                   have b3 := (H3.out.1.at (i := 4 * c + 3) (by omega)).2
                   have H4 := Lib.hid (step4 H3.out (by omega) hnt.1 hnt.2 hgt HE3.out.2.2.2)
                   clear H3
                   go_upto_region 18 with (first | (go_at_call 30; with_reducible refine (KP0.out _).mono ?_; rintro e w' ⟨rfl, rfl⟩) | (go_at_call 30; with_reducible refine (KQ0.out _).mono ?_; rintro e w' ⟨rfl, rfl⟩) | (go_at_call 30; with_reducible refine (KP1.out _).mono ?_; rintro e w' ⟨rfl, rfl⟩) | (go_at_call 30; with_reducible refine (KQ1.out _).mono ?_; rintro e w' ⟨rfl, rfl⟩) | (go_at_call 30; with_reducible refine (KP2.out _).mono ?_; rintro e w' ⟨rfl, rfl⟩) | (go_at_call 30; with_reducible refine (KQ2.out _).mono ?_; rintro e w' ⟨rfl, rfl⟩) | (go_at_call 30; with_reducible refine (KP3.out _).mono ?_; rintro e w' ⟨rfl, rfl⟩) | (go_at_call 30; with_reducible refine (KQ3.out _).mono ?_; rintro e w' ⟨rfl, rfl⟩))
                   rw [HE3.out.1, HE3.out.2.1, HE3.out.2.2.1]
                   clear a3 b3 HE3
                   generalize World.setCell wa3 _ _ = wa4 at *
                   clear KP0 KP1 KP2 KP3 KQ0 KQ1 KQ2 KQ3
                   have H5 : Hid (Si wa4 gt ot 16 ct (bl (fun i => (rcol T (i / 4)).getD (i % 4) 0) (fun i => T.getD i 0) (4 * (c + 1)) 16) ∧ Si wa4 gs os 16 cs S ∧ Si wa4 gw ow NW cw W ∧ Below w.heap.size w wa4) := by rw [← HFG.out.1, ← HFG.out.2]; exact H4
                   clear H4
                   go_wp2_with fail
                   go_roundw
                   case rel => exact ⟨c + 1, by go_num, by omega, .inr hmr, H5⟩
                   case measure => simp [intOf]; omega
                 · have hex : rst W (natL b) R (m + 1) = keyF (bl (fun i => (rcol T (i / 4)).getD (i % 4) 0) (fun i => T.getD i 0) (4 * c) 16) (W.drop (16 * (m + 1))) := by
                     rw [HNX.out]
                     rcases hc0 with h0 | h0
                     · rw [h0, Nat.mul_zero, bl_zero, ml_eta hTl.out]
                       by_cases hmr : m + 1 < R
                       · exact absurd (And.intro (by omega) hmr) hcc
                       · rw [if_neg hmr]
                     · have h4 : c = 4 := by
                         by_cases h4 : c < 4
                         · exact absurd (And.intro h4 h0) hcc
                         · omega
                       rw [h4, bl_full, if_pos h0]
                       rfl
                   have hTT : By (bl (fun i => (rcol T (i / 4)).getD (i % 4) 0) (fun i => T.getD i 0) (4 * c) 16) := by
                     unfold bl
                     refine By.ml fun i hi => ?_
                     split
                     · have e := (rmix_by hTB.out).get i
                       unfold rmix at e
                       rw [ml_get _ hi] at e
                       exact e
                     · exact hTB.out.get i
                   have HEX2 := Lib.hid (And.intro hex hTT)
                   generalize (bl (fun i => (rcol T (i / 4)).getD (i % 4) 0) (fun i => T.getD i 0) (4 * c) 16) = T' at *
                   rw [decide_eq_false hcc]
                   clear hex hTT hcc hc0 hc
                   have hS0 : bl (fun i => T'.getD i 0 ^^^ W.getD (16 * (m + 1) + i) 0) (fun i => S.getD i 0) 0 16 = S := by rw [bl_zero]; exact ml_eta hr.out.2.1.len
                   have H5 : Hid (Si wr gs os 16 cs (bl (fun i => T'.getD i 0 ^^^ W.getD (16 * (m + 1) + i) 0) (fun i => S.getD i 0) 0 16) ∧ Si wr gt ot 16 ct T' ∧ Si wr gw ow NW cw W ∧ Below w.heap.size w wr) := Lib.hid ⟨by rw [hS0]; exact hr.out.2.1, hr.out.1, hr.out.2.2.1, hr.out.2.2.2⟩
                   clear hS0 hr
                   go_upto_region 25 with fail
                   go_loopw [17] (fun v17 wx => ∃ d : Nat, v17 = .int .i64 d ∧ d ≤ 16 ∧ Hid (Si wx gs os 16 cs (bl (fun i => T'.getD i 0 ^^^ W.getD (16 * (m + 1) + i) 0) (fun i => S.getD i 0) d 16) ∧ Si wx gt ot 16 ct T' ∧ Si wx gw ow NW cw W ∧ Below w.heap.size w wx)) (fun v _ => 16 - (intOf v).toNat)
                   case atStart => exact ⟨0, rfl, by omega, H5⟩
                   case round =>
                     obtain ⟨d, rfl, hd, hr⟩ := hrel
                     clear H5
                     rcases Nat.lt_or_ge d 16 with hd16 | hd16
                     · obtain ⟨x, hx⟩ : ∃ x, x = T'.getD d 0 := ⟨_, rfl⟩
                       obtain ⟨y, hy⟩ : ∃ y, y = W.getD (16 * (m + 1) + d) 0 := ⟨_, rfl⟩
                       have hx256 : x < 256 := by rw [hx]; exact HEX2.out.2.get _
                       have hy256 : y < 256 := by rw [hy]; exact HWB.out.get _
                       have hxo := xor64 x y (by omega) (by omega)
                       have hNW2 : 16 * (m + 1) + d < NW := by have := HRW.out; omega
                       have c1 := (hr.out.2.1.at (i := d) hd16).1
                       rw [← hx] at c1
                       have c2 := (hr.out.2.2.1.at (i := 16 * (m + 1) + d) hNW2).1
                       rw [← hy] at c2
                       have c3 := (hr.out.1.at (i := d) hd16).1
                       have c4 := (hr.out.1.at (i := d) hd16).2
                       have ST := step4 (w := w) (k := d) (v := x ^^^ y) hr.out hd16 (Ne.symm hnt.1) hne hgs (by rw [hx, hy])
                       have HST := Lib.hid (And.intro hxo ST)
                       clear hxo ST hr hx hy
                       go_upto_region 27 with fail
                       (refine still_tail 15 (by kernel_rfl) (by kernel_rfl) ?_; simp only [List.take_succ_cons, List.take_zero, List.drop_succ_cons, List.drop_zero]; repeat (refine wpStill_step (fun K hK => ?_); go_simp; (try go_ints); (try simp only [↓IntWalk.iteOmega, true_and]); (with_reducible apply hK); clear hK K)); refine wpStill_nil ?_
                       go_wp2_with fail
                       rw [HST.out.1]
                       have H6 := Lib.hid (HST.out.2)
                       generalize World.setCell wr _ _ = w2 at *
                       have D0 := below_drewN (Below.refl w2.heap.size w2) 1
                       have H7 := Lib.hid (And.intro (H6.out.1.below D0) (And.intro (H6.out.2.1.below D0) (And.intro (H6.out.2.2.1.below D0) (H6.out.2.2.2.trans (D0.mono H6.out.2.2.2.size)))))
                       clear H6 D0
                       refine ⟨⟨d + 1, by go_num, by omega, H7⟩, ?_⟩
                       simp [intOf]; omega
                     · have hd16' : d = 16 := by omega
                       have hfin : bl (fun i => T'.getD i 0 ^^^ W.getD (16 * (m + 1) + i) 0) (fun i => S.getD i 0) 16 16 = rst W (natL b) R (m + 1) := by
                         rw [HEX2.out.1, bl_full]
                         exact ml_congr fun i hi => by rw [drop_get]
                       rw [hd16', hfin] at hr
                       clear hd16' hfin
                       go_wp2_with fail
                       go_roundw
                       case rel => exact ⟨m + 1, by go_num, by omega, Lib.hid ⟨hr.out.1, hr.out.2.2.1, hr.out.2.2.2⟩⟩
                       case measure => simp [intOf]; omega
        · have hmR : m = R := by omega
          have hfin := HEX.out R hmR.symm
          have HFIN := Lib.hid hfin
          have hSl : S.length = 16 := hq.out.1.len
          have HSL := Lib.hid hSl
          clear hfin hmR hSl
          have A3 := below1 wr (.cells #[] 5)
          have H3 : Hid (IB w (wr.alloc (.cells #[] 5)) (.slice (some ⟨wr.heap.size, 0, none⟩) 0 0) (S.take 0) ∧ Si (wr.alloc (.cells #[] 5)) gs os 16 cs S ∧ ∀ q, vblk (.slice (some ⟨wr.heap.size, 0, none⟩) 0 0) = some q → q ≠ gs) :=
            Lib.hid ⟨⟨sg_empty _ _, fun g hg => by simp [vblk] at hg, hq.out.2.2.trans (A3.mono hq.out.2.2.size)⟩, hq.out.1.below A3, fun q hq => by simp [vblk] at hq⟩
          clear A3 hq
          go_upto_region 30 with fail
          go_loopw [18, 176] (fun v18 v176 wx => ∃ k : Nat, v176 = .int .i64 k ∧ k ≤ 16 ∧ Hid (IB w wx v18 (S.take k) ∧ Si wx gs os 16 cs S ∧ ∀ q, vblk v18 = some q → q ≠ gs)) (fun _ v _ => 16 - (intOf v).toNat)
          case atStart => exact ⟨0, rfl, by omega, H3.out⟩
          case round =>
            obtain ⟨k, rfl, hk, hr⟩ := hrel
            clear H3
            rcases Nat.lt_or_ge k 16 with h' | h'
            · obtain ⟨x, hx⟩ : ∃ x, x = S.getD k 0 := ⟨_, rfl⟩
              have hx256 : x < 256 := by rw [hx]; exact hSB.out.get _
              have hwrap : IntKind.u8.wrap (x : Int) = x := by rw [IntKind.wrap_u8]; omega
              have c1 := (hr.out.2.1.at (i := k) h').1
              rw [← hx] at c1
              have htk := take_next (l := S) (i := k) (by rw [HSL.out]; exact h')
              rw [← hx] at htk
              have HTK := Lib.hid htk
              have hlk : (S.take k).length = k := by rw [List.length_take, HSL.out]; omega
              have SV := Lib.hid (hr.out.1.sg.below (below1 wr (.cells #[.int .u8 (x : Nat)] 5)))
              have SL := Lib.hid (lit_b8 wr 5 x)
              have b1 : (S.take k).length + 1 ≤ maxLen := by rw [hlk]; unfold maxLen; omega
              have b2 : ((S.take k).length + 1) * 1 ≤ 140737488355328 := by rw [hlk]; omega
              have HBB := Lib.hid (And.intro b1 b2)
              clear b1 b2 hlk htk hx
              go_upto_region 31 with fail
              go_wp2_with (at_builtin; refine wpList_append_any _ rfl (.tmp 180) (.tmp 183) 34 rfl 5 j0 (.int .u8 0) 1 1 Tryd.underlying34 J.out J0.out J1.out J2.out rfl (by decide) u18 (S.take k).length _ rfl SV.out (.slice (some ⟨wr.heap.size, 0, none⟩) 1 1) 1 _ rfl SL.out (b8_one _) HBB.out.1 HBB.out.2 ?grow)
              case grow =>
                intro vo' w4 hs4 hv4 hk4
                have D := below1 wr (.cells #[.int .u8 (x : Nat)] 5)
                have N4 : IB w w4 vo' (S.take (k + 1)) := by
                  rw [← HTK.out]
                  exact hr.out.1.app (m := [x]) D (by simpa using hs4) (fun g hg => by simpa using hv4 g hg) hk4
                have V4 : ∀ q, vblk vo' = some q → q ≠ gs := fun q hq => by
                  rcases hv4 q hq with h | h
                  · exact hr.out.2.2 q h
                  · have e1 := D.size
                    have e3 := hr.out.2.1.lt (by omega)
                    omega
                have HALL := Lib.hid (And.intro N4 (And.intro (Si.push hr.out.2.1 D hk4 hr.out.2.2) V4))
                clear hs4 hv4 hk4 N4 V4 hr SV SL D c1
                go_wp2_with fail
                go_roundw
                case rel => exact ⟨k + 1, by go_num, by omega, HALL⟩
                case measure => simp [intOf]; omega
            · have h16 : k = 16 := by omega
              rw [h16, List.take_of_length_le (by rw [HSL.out]; exact Nat.le_refl _)] at hr
              have hst := run_str8 hSB.out hr.out.1.sg
              clear h16
              go_wp2_with fail
              go_ret
              exact ⟨by rw [← HRN.out, HFIN.out]; rfl, hr.out.1.bel⟩
end Go.Proofs.YteleedcpepifjaaDoor
