/-
The document's words of a key.
-/
import Derived.Test.YteleedcpepifjaaDoorAesN
import Derived.Test.YteleedcpepifjaaDoorSgAny
import Derived.Test.YteleedcpepifjaaDoorPlan
namespace Go.Proofs.YteleedcpepifjaaDoor
open Go.RowKit AesP
set_option maxRecDepth 100000
def iv (l : List Nat) : List Value := l.map fun d => Value.int .i64 (d : Nat)
theorem iv_len (l : List Nat) : (iv l).length = l.length := by simp [iv]
theorem iv_get (l : List Nat) (i : Nat) (h : i < l.length) : (iv l)[i]? = some (.int .i64 (l.getD i 0 : Nat)) := by simp [iv, h]
theorem iv_one (l : List Nat) : ∀ v ∈ iv l, v.oneCell' = true := by intro y hy; obtain ⟨d, _, rfl⟩ := List.mem_map.1 hy; rfl
theorem iv_app (a b : List Nat) : iv (a ++ b) = iv a ++ iv b := by simp [iv]
theorem sg_none8 (w : World) (size : Nat) : Sg w size (.slice none 0 0) 0 [] := Sg.nil w size
/-- a slice of ints of the call's own -/
structure IO (w wr : World) (v : Value) (l : List Nat) : Prop where
  sg : Sg wr 1 v l.length (iv l)
  own : ∀ g, vblk v = some g → w.heap.size ≤ g
  bel : Below w.heap.size w wr
theorem IO.below {w wr wx : World} {v : Value} {l : List Nat} (h : IO w wr v l) (hb : Below wr.heap.size wr wx) : IO w wx v l :=
  ⟨h.sg.below hb, h.own, h.bel.trans (hb.mono h.bel.size)⟩
theorem IO.at {w wr : World} {g off n cap : Nat} {l : List Nat} (h : IO w wr (.slice (some ⟨g, off, none⟩) n cap) l) {i : Nat} (hi : i < l.length) : wr.cell? ⟨g, off + i, none⟩ = some (.int .i64 (l.getD i 0 : Nat)) := by
  obtain ⟨g', off', cap', hv, _, _, _, _, hc, _⟩ := h.sg.open (by omega)
  simp only [Value.slice.injEq, Option.some.injEq, Addr.mk.injEq, true_and, and_true] at hv
  obtain ⟨⟨rfl, rfl⟩, -, -⟩ := hv
  rw [(hc i (by omega)).1, iv_get l i hi]
theorem intI : ∃ i, Tryd.prog.info? 3 = some i ∧ i.zero = some (.int .i64 0) ∧ i.size = 1 ∧ i.bytes = 8 := by
  have h : (Tryd.prog.info? 3).map (fun i => (i.zero, i.size, i.bytes)) = some (some (.int .i64 0), 1, 8) := by kernel_rfl
  cases hi : Tryd.prog.info? 3 with
  | none => rw [hi] at h; cases h
  | some i =>
    rw [hi] at h
    simp only [Option.map_some, Option.some.injEq, Prod.mk.injEq] at h
    exact ⟨i, rfl, h.1, h.2.1, h.2.2⟩
theorem lit_int (w : World) (t : TypeId) (x : Nat) : Sg (w.alloc (.cells #[.int .i64 (x : Nat)] t)) 1 (.slice (some ⟨w.heap.size, 0, none⟩) 1 1) 1 (iv [x]) := by
  have hb : Blk (w.alloc (.cells #[.int .i64 (x : Nat)] t)) w.heap.size t (iv [x]) := Blk.new w t (iv [x])
  refine ⟨rfl, _, 1, rfl, Nat.le_refl _, by decide, .inr ⟨w.heap.size, 0, rfl, hb.lt, fun j hj => ?_, fun j hj => ?_⟩⟩
  · obtain rfl : j = 0 := by omega
    exact ⟨by rw [hb.cell 0 _ rfl]; rfl, hb.free _⟩
  · obtain rfl : j = 0 := by omega
    exact hb.cell 0 _ rfl
theorem quad_at (l : List Nat) (a : Nat) {j : Nat} (h : j < 4) : (quad l a).getD j 0 = l.getD (a + j) 0 := by
  match j, h with
  | 0, _ => rfl
  | 1, _ => rfl
  | 2, _ => rfl
  | 3, _ => rfl
/-- four of them, as a slice of the slice -/
theorem Sg.four {w : World} {g off n cap : Nat} {l : List Nat} (h : Sg w 1 (.slice (some ⟨g, off, none⟩) n cap) n (iv l)) {a : Nat} (ha : a + 4 ≤ n) : Sg w 1 (.slice (some ⟨g, off + a, none⟩) 4 (cap - a)) 4 (iv (quad l a)) := by
  have hl := h.len
  rw [iv_len] at hl
  obtain ⟨_, ao, cap', hv, h1, h2, h3⟩ := h
  simp only [Value.slice.injEq, true_and] at hv
  obtain ⟨rfl, rfl⟩ := hv
  refine ⟨rfl, _, _, rfl, by omega, by omega, ?_⟩
  rcases h3 with h0 | ⟨g', off', ha', hg, hc, hx⟩
  · omega
  · simp only [Option.some.injEq, Addr.mk.injEq, and_true] at ha'
    obtain ⟨rfl, rfl⟩ := ha'
    refine .inr ⟨g, off + a, rfl, hg, fun j hj => ?_, fun j hj => ?_⟩
    · rw [Nat.add_assoc]; exact hc _ (by omega)
    · rw [Nat.add_assoc, hx _ (by omega), iv_get l _ (by omega), iv_get _ j (by show j < 4; omega), quad_at l a (by omega)]
theorem sg_empty (w : World) (t : TypeId) : Sg (w.alloc (.cells #[] t)) 1 (.slice (some ⟨w.heap.size, 0, none⟩) 0 0) 0 [] := ⟨rfl, _, 0, rfl, Nat.le_refl _, Nat.zero_le _, .inl rfl⟩
/-- what an append gives -/
theorem IO.app {w wr wx wy : World} {v v' : Value} {l m : List Nat} (h : IO w wr v l) (hb : Below wr.heap.size wr wx) (hs : Sg wy 1 v' (l.length + m.length) (iv l ++ iv m)) (hv : ∀ g, vblk v' = some g → vblk v = some g ∨ wx.heap.size ≤ g) (hk : Keeps (fun k => vblk v = some k) wx wy) : IO w wy v' (l ++ m) where
  sg := by rw [List.length_append, iv_app]; exact hs
  own := fun g hg => (hv g hg).elim (h.own g) (fun e => Nat.le_trans (Nat.le_trans h.bel.size hb.size) e)
  bel := (h.bel.trans (hb.mono h.bel.size)).trans (hk.below (Nat.le_trans h.bel.size hb.size) (fun k hk' e => by have := h.own k e; omega))
theorem lit_ints (w : World) (t : TypeId) (l : List Nat) (h0 : 0 < l.length) (hm : l.length ≤ maxLen) : Sg (w.alloc (.cells (iv l).toArray t)) 1 (.slice (some ⟨w.heap.size, 0, none⟩) l.length l.length) l.length (iv l) := by
  have hb : Blk (w.alloc (.cells (iv l).toArray t)) w.heap.size t (iv l) := Blk.new w t (iv l)
  refine ⟨by rw [iv_len]; omega, _, _, rfl, Nat.le_refl _, hm, .inr ⟨w.heap.size, 0, rfl, hb.lt, fun j hj => ?_, fun j hj => ?_⟩⟩
  · rw [Nat.zero_add, hb.cell j _ (iv_get l j (by omega))]
    exact ⟨rfl, hb.free _⟩
  · rw [Nat.zero_add, hb.cell j _ (iv_get l j (by omega)), iv_get l j (by omega)]
theorem subB (x : Nat) (w : World) : Calls Tryd.prog 29 #[.int .i64 x] w fun e w' => e = .returned (.int .i64 (subN x : Nat)) ∧ Below w.heap.size w w' :=
  (rsub_ok x w).mono (by rintro e w' ⟨rfl, rfl⟩; exact ⟨rfl, Below.refl _ _⟩)
theorem ml_succ (n : Nat) (f : Nat → Nat) : ml n f ++ [f n] = ml (n + 1) f := by unfold ml; rw [List.range_succ, List.map_append]; rfl
theorem ml4 (f : Nat → Nat) : ml 4 f = [f 0, f 1, f 2, f 3] := rfl
theorem kstep_first (f : Nat → Nat) {n i : Nat} {L : List Nat} {e q0 q1 q2 q3 : Nat} (hi : i % n = 0) (hq : quad L (4 * i - 4) = [q0, q1, q2, q3]) :
    kstep f n i (L, e) = (L ++ ml 4 fun k => ([f q1 ^^^ e, f q2, f q3, f q0] : List Nat).getD k 0 ^^^ L.getD (4 * i - 4 * n + k) 0, tw e) := by
  simp only [quad, List.cons.injEq, and_true] at hq
  obtain ⟨h0, h1, h2, h3⟩ := hq
  simp only [kstep, if_pos hi, ml4, if_true, if_false, Nat.one_ne_zero, Nat.reduceAdd, Nat.reduceMod, Nat.add_zero, h0, h1, h2, h3, reduceCtorEq, Nat.reduceEqDiff]
  rfl
theorem kstep_mid (f : Nat → Nat) {n i : Nat} {L : List Nat} {e q0 q1 q2 q3 : Nat} (hi : i % n ≠ 0) (hm : n = 8 ∧ i % 8 = 4) (hq : quad L (4 * i - 4) = [q0, q1, q2, q3]) :
    kstep f n i (L, e) = (L ++ ml 4 fun k => ([f q0, f q1, f q2, f q3] : List Nat).getD k 0 ^^^ L.getD (4 * i - 4 * n + k) 0, e) := by
  simp only [quad, List.cons.injEq, and_true] at hq
  obtain ⟨h0, h1, h2, h3⟩ := hq
  simp only [kstep, if_neg hi, if_pos hm, ml4, Nat.add_zero, h0, h1, h2, h3]
  rfl
theorem kstep_rest (f : Nat → Nat) {n i : Nat} {L : List Nat} {e q0 q1 q2 q3 : Nat} (hi : i % n ≠ 0) (hm : ¬ (n = 8 ∧ i % 8 = 4)) (hq : quad L (4 * i - 4) = [q0, q1, q2, q3]) :
    kstep f n i (L, e) = (L ++ ml 4 fun k => ([q0, q1, q2, q3] : List Nat).getD k 0 ^^^ L.getD (4 * i - 4 * n + k) 0, e) := by
  simp only [quad, List.cons.injEq, and_true] at hq
  obtain ⟨h0, h1, h2, h3⟩ := hq
  simp only [kstep, if_neg hi, if_neg hm, ml4, Nat.add_zero, h0, h1, h2, h3]
  rfl
theorem quad_split (L : List Nat) (a : Nat) : ∃ q0 q1 q2 q3, quad L a = [q0, q1, q2, q3] := ⟨_, _, _, _, rfl⟩
/-- what the choice of a round leaves -/
def Pick (w : World) (g off cap nn lim i n e : Nat) (L : List Nat) (v6 v8 : Value) (wx : World) : Prop :=
  ∃ (c : Nat) (u : List Nat) (g8 o8 c8 : Nat), v6 = .int .i64 c ∧ v8 = .slice (some ⟨g8, o8, none⟩) 4 c8 ∧ kstep subN n i (L, e) = (L ++ ml 4 fun k => u.getD k 0 ^^^ L.getD (4 * i - 4 * n + k) 0, c) ∧ By u ∧
    Sg wx 1 (.slice (some ⟨g8, o8, none⟩) 4 c8) 4 (iv u) ∧ Sg wx 1 (.slice (some ⟨g, off, none⟩) nn cap) nn (iv L) ∧ Below w.heap.size w wx ∧ lim ≤ g8
theorem Pick.lit {w w2 w5 : World} {g off cap nn lim i n e c : Nat} {L u : List Nat} (hL : Sg w2 1 (.slice (some ⟨g, off, none⟩) nn cap) nn (iv L)) (hb : Below w.heap.size w w2) (h5 : Below w2.drew.heap.size w2.drew w5) (hl : lim ≤ w2.heap.size)
    (hk : kstep subN n i (L, e) = (L ++ ml 4 fun k => u.getD k 0 ^^^ L.getD (4 * i - 4 * n + k) 0, c)) (hu : By u) (h4 : u.length = 4) (t : TypeId) :
    Pick w g off cap nn lim i n e L (.int .i64 c) (.slice (some ⟨w5.heap.size, 0, none⟩) 4 4) (w5.alloc (.cells (iv u).toArray t)) := by
  have D : Below w2.heap.size w2 (w5.alloc (.cells (iv u).toArray t)) := ((below_drewN (Below.refl w2.heap.size w2) 1).trans h5).trans ((below1 w5 _).mono (Nat.le_trans (below_drewN (Below.refl w2.heap.size w2) 1).size h5.size))
  have S := lit_ints w5 t u (by omega) (by rw [h4]; decide)
  rw [h4] at S
  exact ⟨c, u, _, _, _, rfl, rfl, hk, hu, S, hL.below D, hb.trans (D.mono hb.size), Nat.le_trans hl (Nat.le_trans (below_drewN (Below.refl w2.heap.size w2) 1).size h5.size)⟩
set_option maxHeartbeats 8000000 in
theorem words_ok (s : ByteArray) (n : Nat) (hn : n = 4 ∨ n = 6 ∨ n = 8) (hs : s.size = 4 * n) (w : World) : Calls Tryd.prog 28 #[.string s] w fun e w' => ∃ v, e = .returned v ∧ IO w w' v (kexp subN n (natL s) (3 * n + 28)).1 := by
  obtain ⟨i0, hi, hi0, hi1, hi2⟩ := intI
  have I := Lib.hid hi
  have I0 := Lib.hid hi0
  have I1 := Lib.hid hi1
  have I2 := Lib.hid hi2
  clear hi hi0 hi1 hi2
  go_enter Tryd.func28, Tryd.ntmps28
  go_upto_region 3 with fail
  have H0 : Hid (IO w (w.alloc (.cells #[] 3)) (.slice (some ⟨w.heap.size, 0, none⟩) 0 0) []) := ⟨⟨rfl, _, 0, rfl, Nat.le_refl _, Nat.zero_le _, .inl rfl⟩, fun g hg => by simp [vblk] at hg, below1 _ _⟩
  have hs32 : s.size ≤ 32 := by omega
  have HS := Lib.hid hs
  clear hs
  go_wp2_with fail
  go_loopw [4, 5] (fun vo v wr => ∃ i : Nat, v = .int .i64 i ∧ i ≤ s.size ∧ Hid (IO w wr vo ((natL s).take i))) (fun _ v _ => s.size - (intOf v).toNat)
  case atStart => exact ⟨0, rfl, by omega, H0⟩
  case round =>
    obtain ⟨i, rfl, hi, hr⟩ := hrel
    rename_i vo
    clear H0
    rcases Nat.lt_or_ge i s.size with h | h
    · have hx : (natL s).getD i 0 = (s[i]'h).toNat := by
        rw [by_index s i h]
        unfold natL
        rw [List.getD_eq_getElem?_getD, List.getD_eq_getElem?_getD, List.getElem?_map]
        have hl : i < s.data.toList.length := by rw [Array.length_toList]; exact h
        rw [List.getElem?_eq_getElem hl]; rfl
      have htk : (natL s).take (i + 1) = (natL s).take i ++ [(s[i]'h).toNat] := by
        rw [← hx, List.take_add_one]
        have hl : i < (natL s).length := by rw [natL_len]; exact h
        rw [List.getD_eq_getElem?_getD, List.getElem?_eq_getElem hl]; rfl
      have HTK := Lib.hid htk
      clear hx htk
      have hxb := (s[i]'h).toNat_lt
      have SV := Lib.hid (hr.out.sg.below (below1 wr (.cells #[.int .i64 ((s[i]'h).toNat : Nat)] 3)))
      have SL := Lib.hid (lit_int wr 3 (s[i]'h).toNat)
      have hl : ((natL s).take i).length = i := by rw [List.length_take, natL_len]; omega
      have b1 : ((natL s).take i).length + 1 ≤ maxLen := by rw [hl]; unfold maxLen; omega
      have b2 : (((natL s).take i).length + 1) * 8 ≤ 140737488355328 := by rw [hl]; omega
      have HB := Lib.hid (And.intro b1 b2)
      clear b1 b2 hl
      go_wp2_with (at_builtin; refine wpList_append_any _ rfl (.tmp 20) (.tmp 25) 64 rfl 3 i0 (.int .i64 0) 1 8 Tryd.underlying64 I.out I0.out I1.out I2.out rfl (by decide) _ _ _ rfl SV.out _ 1 _ rfl SL.out (iv_one _) HB.out.1 HB.out.2 ?grow)
      case grow =>
        intro vo' w2 hs2 hv2 hk2
        have HN : Hid (IO w w2 vo' ((natL s).take (i + 1))) := by
          show IO w w2 vo' ((natL s).take (i + 1))
          rw [HTK.out]
          exact hr.out.app (m := [(s[i]'h).toNat]) (below1 wr _) (by simpa using hs2) (fun g hg => by simpa using hv2 g hg) hk2
        clear hs2 hv2 hk2 hr
        go_wp2_with fail
        go_roundw
        case rel => exact ⟨i + 1, by go_num, by omega, HN⟩
        case measure => simp [intOf]; omega
    · have hii : i = s.size := by omega
      rw [hii, List.take_of_length_le (by rw [natL_len]; exact Nat.le_refl _)] at hr
      clear hii
      go_upto_region 7 with fail
      rw [show decide (i < s.size) = false from decide_eq_false (by omega)]
      clear hi h
      have hln : (natL s).length = 4 * n := by rw [natL_len]; exact HS.out
      have HLN := Lib.hid hln
      clear hln
      go_wp2_with fail
      go_loopw [4, 6, 7] (fun vo v6 v7 wr => ∃ m : Nat, v6 = .int .i64 ((kexp subN n (natL s) m).2 : Nat) ∧ v7 = .int .i64 ((n : Int) + m) ∧ m ≤ 3 * n + 28 ∧ Hid (IO w wr vo (kexp subN n (natL s) m).1)) (fun _ _ v _ => 100 - (intOf v).toNat)
      case atStart => exact ⟨0, rfl, by simp, by omega, hr⟩
      case round =>
        obtain ⟨m, rfl, rfl, hm, hq⟩ := hrel
        obtain ⟨hby, he⟩ := kexp_by (fun x hx => sub_lt hx) n (natL_by s) m
        have hlen := kexp_len subN n (natL s) m
        have HK1 : Hid (kexp subN n (natL s) (m + 1) = kstep subN n (n + m) (kexp subN n (natL s) m)) := Lib.hid rfl
        have HKM : Hid (∀ q, q = m → (kexp subN n (natL s) q) = (kexp subN n (natL s) m)) := Lib.hid (fun q hq => by rw [hq])
        generalize kexp subN n (natL s) m = X at *
        obtain ⟨L, e⟩ := X
        dsimp only at hby he hlen hq ⊢
        have hll : L.length = 4 * (n + m) := by rw [hlen, HLN.out]; omega
        have SQ := hq.out.sg
        rw [hll] at SQ
        have HLL := Lib.hid hll
        have HBY := Lib.hid hby
        clear hlen hll hby
        obtain ⟨g, off, cap, hvo, c1, c2, c3, hg, c4, c5⟩ := SQ.open (by omega)
        subst hvo
        clear c4 c5
        have hown := hq.out.own g (by simp [vblk]; omega)
        have hbel := hq.out.bel
        have HSQ := Lib.hid (And.intro SQ hbel)
        clear SQ hbel hq
        have hn4 : 4 ≤ n := by omega
        have hn8 : n ≤ 8 := by omega
        have HN := Lib.hid hn
        clear hn
        rcases Nat.lt_or_ge m (3 * n + 28) with h | h
        · go_upto_region 11 with fail
          obtain ⟨j, hj⟩ : ∃ j : Nat, n + m = j + 1 := ⟨n + m - 1, by omega⟩
          rw [show (n : Int) + (m : Int) = ((j : Nat) : Int) + 1 by omega, hj]
          have HJ := Lib.hid hj
          rw [hj] at HSQ HLL HK1
          have j4 : 3 ≤ j := by omega
          have j60 : j < 60 := by omega
          have i1 : (cap = 4 * j) = False := eq_false (by omega)
          have i2 : 4 * (j + 1) ≤ cap := by omega
          clear c1 hj
          have SV := Lib.hid (sg_empty wr 3)
          have h4 : 4 * (j + 1) - (4 * (j + 1) - 4) = 4 := by omega
          have SU : Hid (Sg (wr.alloc (.cells #[] 3)) 1 (.slice (some ⟨g, off + (4 * (j + 1) - 4), none⟩) (4 * (j + 1) - (4 * (j + 1) - 4)) (cap - (4 * (j + 1) - 4))) 4 (iv (quad L (4 * (j + 1) - 4)))) := by
            show Sg _ _ _ _ _
            rw [h4]
            exact (HSQ.out.1.below (below1 wr (.cells #[] 3))).four (a := 4 * (j + 1) - 4) (by omega)
          clear h4
          go_wp2_with (at_builtin; refine wpList_append_any _ rfl (.tmp 35) (.tmp 42) 64 rfl 3 i0 (.int .i64 0) 1 8 Tryd.underlying64 I.out I0.out I1.out I2.out rfl (by decide) _ _ _ rfl SV.out _ 4 _ rfl SU.out (iv_one _) (by decide) (by decide) ?grow)
          case grow =>
            intro v8 w2 hs2 hv2 hk2
            have D2 : Below wr.heap.size wr w2 := (below1 wr _).trans (hk2.below (below1 wr _).size (by intro k _ h; simp [vblk] at h))
            obtain ⟨q0, q1, q2, q3, hq⟩ := quad_split L (4 * (j + 1) - 4)
            rw [hq] at hs2
            have QBY : By [q0, q1, q2, q3] := by rw [← hq]; exact quad_by HBY.out _
            have HQ := Lib.hid (And.intro hq QBY)
            have S8 : Sg w2 1 v8 4 (iv [q0, q1, q2, q3]) := hs2
            clear hq hs2 QBY
            obtain ⟨g8, o8, c8, hv8, -, -, hb8, hg8, hc8, -⟩ := S8.open (by decide)
            have hlow : wr.heap.size ≤ g8 := by
              rcases hv2 g8 hb8 with h | h
              · simp [vblk] at h
              · exact Nat.le_trans (Nat.le_succ _) h
            clear hv2 hk2 hb8
            subst hv8
            have HS8 := Lib.hid (And.intro S8 (And.intro (HSQ.out.1.below D2) (HSQ.out.2.trans (D2.mono HSQ.out.2.size))))
            have HG := Lib.hid D2.size
            clear S8 SV SU D2
            go_upto_if 47 with fail
            go_cut [6, 8] (fun v6 v8 wx => Hid (Pick w g off cap (4 * (j + 1)) wr.heap.size (j + 1) n e L v6 v8 wx))
            case first =>
              have HC : Hid (∀ w', Below w2.drew.heap.size w2.drew w' → w'.cell? ⟨g8, o8, none⟩ = some (.int .i64 (q0 : Nat)) ∧ w'.cell? ⟨g8, o8 + 1, none⟩ = some (.int .i64 (q1 : Nat)) ∧ w'.cell? ⟨g8, o8 + 2, none⟩ = some (.int .i64 (q2 : Nat)) ∧ w'.cell? ⟨g8, o8 + 3, none⟩ = some (.int .i64 (q3 : Nat))) := by
                refine Lib.hid fun w' hw' => ?_
                have D := (below_drewN (Below.refl w2.heap.size w2) 1).trans hw'
                have S9 := HS8.out.1.below D
                obtain ⟨g9, o9, c9, hv9, -, -, -, -, hc9, -⟩ := S9.open (by decide)
                simp only [Value.slice.injEq, Option.some.injEq, Addr.mk.injEq, true_and, and_true] at hv9
                obtain ⟨⟨rfl, rfl⟩, -⟩ := hv9
                exact ⟨(hc9 0 (by decide)).1, (hc9 1 (by decide)).1, (hc9 2 (by decide)).1, (hc9 3 (by decide)).1⟩
              have hb : (((j : Int) + 1) % (n : Int)) = (((j + 1) % n : Nat) : Int) := by push_cast; rfl
              have ha : ((j : Int) + 1).tmod (n : Int) = (((j + 1) % n : Nat) : Int) := by rw [Int.tmod_eq_emod_of_nonneg (by omega), hb]
              try rw [hb]
              try rw [ha]
              clear hb ha
              rcases Nat.eq_zero_or_pos ((j + 1) % n) with hz | hz
              · rw [hz]
                have HE : Hid (kstep subN n (j + 1) (L, e) = _) := Lib.hid (kstep_first subN hz HQ.out.1)
                clear hz
                go_upto_region 13 with fail
                have hxe := xor64 (subN q1) e (Nat.lt_trans (sub_lt (HQ.out.2 q1 (by simp))) (by decide)) (Nat.lt_trans he (by decide))
                have HXE := Lib.hid hxe
                clear hxe
                (refine wp_region_quiet_tail (C := fun w' => Below w2.drew.heap.size w2.drew w') 18 (by kernel_rfl) (by kernel_rfl) (Below.refl _ _) ?_; simp only [List.take_succ_cons, List.take_zero, List.drop_succ_cons, List.drop_zero])
                ((with_reducible refine wpQuiet_step (fun K hK => ?_)); refine quiet_plainG (.slice (some ⟨g8, o8, none⟩) 4 c8) (by first | rfl | simp [Region.wanted, yielded]) (fun w' hw' => by go_simp) ?_; go_simp; (with_reducible apply hK); clear hK K)
                ((with_reducible refine wpQuiet_step (fun K hK => ?_)); refine quiet_plainG (.pointer (some ⟨g8, o8 + 1, none⟩)) (by first | rfl | simp [Region.wanted, yielded]) (fun w' hw' => by go_simp) ?_; go_simp; (with_reducible apply hK); clear hK K)
                ((with_reducible refine wpQuiet_step (fun K hK => ?_)); refine quiet_plainG (.int .i64 (q1 : Nat)) (by first | rfl | simp [Region.wanted, yielded]) (fun w' hw' => by have e := (HC.out _ hw').2.1; go_simp) ?_; go_simp; (with_reducible apply hK); clear hK K)
                ((with_reducible refine wpQuiet_step (fun K hK => ?_)); refine quiet_callG (.int .i64 (subN q1 : Nat)) 29 #[.int .i64 (q1 : Nat)] (by first | rfl | simp [Region.wanted, yielded]) (fun w' => by go_simp) (fun w' hw' => (subB q1 w').mono (by rintro e w'' ⟨rfl, hb⟩; exact ⟨rfl, hw'.trans (hb.mono hw'.size)⟩)) ?_; go_simp; (with_reducible apply hK); clear hK K)
                ((with_reducible refine wpQuiet_step (fun K hK => ?_)); refine quiet_plainG (.int .i64 (e : Nat)) (by first | rfl | simp [Region.wanted, yielded]) (fun w' hw' => by go_simp) ?_; go_simp; (with_reducible apply hK); clear hK K)
                ((with_reducible refine wpQuiet_step (fun K hK => ?_)); refine quiet_plainG (.int .i64 (subN q1 ^^^ e : Nat)) (by first | rfl | simp [Region.wanted, yielded]) (fun w' hw' => by have ee := HXE.out; go_simp; try simp [ee]) ?_; go_simp; (with_reducible apply hK); clear hK K)
                ((with_reducible refine wpQuiet_step (fun K hK => ?_)); refine quiet_plainG (.slice (some ⟨g8, o8, none⟩) 4 c8) (by first | rfl | simp [Region.wanted, yielded]) (fun w' hw' => by go_simp) ?_; go_simp; (with_reducible apply hK); clear hK K)
                ((with_reducible refine wpQuiet_step (fun K hK => ?_)); refine quiet_plainG (.pointer (some ⟨g8, o8 + 2, none⟩)) (by first | rfl | simp [Region.wanted, yielded]) (fun w' hw' => by go_simp) ?_; go_simp; (with_reducible apply hK); clear hK K)
                ((with_reducible refine wpQuiet_step (fun K hK => ?_)); refine quiet_plainG (.int .i64 (q2 : Nat)) (by first | rfl | simp [Region.wanted, yielded]) (fun w' hw' => by have e := (HC.out _ hw').2.2.1; go_simp) ?_; go_simp; (with_reducible apply hK); clear hK K)
                ((with_reducible refine wpQuiet_step (fun K hK => ?_)); refine quiet_callG (.int .i64 (subN q2 : Nat)) 29 #[.int .i64 (q2 : Nat)] (by first | rfl | simp [Region.wanted, yielded]) (fun w' => by go_simp) (fun w' hw' => (subB q2 w').mono (by rintro e w'' ⟨rfl, hb⟩; exact ⟨rfl, hw'.trans (hb.mono hw'.size)⟩)) ?_; go_simp; (with_reducible apply hK); clear hK K)
                ((with_reducible refine wpQuiet_step (fun K hK => ?_)); refine quiet_plainG (.slice (some ⟨g8, o8, none⟩) 4 c8) (by first | rfl | simp [Region.wanted, yielded]) (fun w' hw' => by go_simp) ?_; go_simp; (with_reducible apply hK); clear hK K)
                ((with_reducible refine wpQuiet_step (fun K hK => ?_)); refine quiet_plainG (.pointer (some ⟨g8, o8 + 3, none⟩)) (by first | rfl | simp [Region.wanted, yielded]) (fun w' hw' => by go_simp) ?_; go_simp; (with_reducible apply hK); clear hK K)
                ((with_reducible refine wpQuiet_step (fun K hK => ?_)); refine quiet_plainG (.int .i64 (q3 : Nat)) (by first | rfl | simp [Region.wanted, yielded]) (fun w' hw' => by have e := (HC.out _ hw').2.2.2; go_simp) ?_; go_simp; (with_reducible apply hK); clear hK K)
                ((with_reducible refine wpQuiet_step (fun K hK => ?_)); refine quiet_callG (.int .i64 (subN q3 : Nat)) 29 #[.int .i64 (q3 : Nat)] (by first | rfl | simp [Region.wanted, yielded]) (fun w' => by go_simp) (fun w' hw' => (subB q3 w').mono (by rintro e w'' ⟨rfl, hb⟩; exact ⟨rfl, hw'.trans (hb.mono hw'.size)⟩)) ?_; go_simp; (with_reducible apply hK); clear hK K)
                ((with_reducible refine wpQuiet_step (fun K hK => ?_)); refine quiet_plainG (.slice (some ⟨g8, o8, none⟩) 4 c8) (by first | rfl | simp [Region.wanted, yielded]) (fun w' hw' => by go_simp) ?_; go_simp; (with_reducible apply hK); clear hK K)
                ((with_reducible refine wpQuiet_step (fun K hK => ?_)); refine quiet_plainG (.pointer (some ⟨g8, o8, none⟩)) (by first | rfl | simp [Region.wanted, yielded]) (fun w' hw' => by go_simp) ?_; go_simp; (with_reducible apply hK); clear hK K)
                ((with_reducible refine wpQuiet_step (fun K hK => ?_)); refine quiet_plainG (.int .i64 (q0 : Nat)) (by first | rfl | simp [Region.wanted, yielded]) (fun w' hw' => by have e := (HC.out _ hw').1; go_simp) ?_; go_simp; (with_reducible apply hK); clear hK K)
                ((with_reducible refine wpQuiet_step (fun K hK => ?_)); refine quiet_callG (.int .i64 (subN q0 : Nat)) 29 #[.int .i64 (q0 : Nat)] (by first | rfl | simp [Region.wanted, yielded]) (fun w' => by go_simp) (fun w' hw' => (subB q0 w').mono (by rintro e w'' ⟨rfl, hb⟩; exact ⟨rfl, hw'.trans (hb.mono hw'.size)⟩)) ?_; go_simp; (with_reducible apply hK); clear hK K)
                refine wpQuiet_nil ?_
                intro w5 hw5
                have hsu := fun q (hq : q ∈ [q0, q1, q2, q3]) => sub_lt (HQ.out.2 q hq)
                have HP := Lib.hid (Pick.lit HS8.out.2.1 HS8.out.2.2 hw5 HG.out HE.out (by
                  intro x hx
                  simp only [List.mem_cons, List.not_mem_nil, or_false] at hx
                  rcases hx with rfl | rfl | rfl | rfl
                  · exact xor_lt (hsu q1 (by simp)) he
                  · exact hsu q2 (by simp)
                  · exact hsu q3 (by simp)
                  · exact hsu q0 (by simp)) rfl 3)
                clear hsu HS8 hw5
                have HM := mul_small ⟨e, he⟩
                go_wp2_with (go_at_call 30; refine (rmul_ok e 2 he _).mono ?_; rintro e' w' ⟨rfl, rfl⟩)
                go_meet
                exact HP
              · have HZ := Lib.hid hz
                have hzz : ((((j + 1) % n : Nat) : Int) == 0) = false := by
                  have : (((j + 1) % n : Nat) : Int) ≠ 0 := by omega
                  simpa using this
                generalize hzx : (j + 1) % n = z at *
                have HZX := Lib.hid hzx
                clear hzx hz
                try rw [hzz]
                by_cases h8 : n = 8
                · have d8 : ((n : Int) == 8) = true := by rw [beq_iff_eq]; omega
                  have H8 := Lib.hid h8
                  clear h8
                  by_cases h4 : (j + 1) % 8 = 4
                  · have d4 : (((j : Int) + 1) % 8 == 4) = true := by rw [beq_iff_eq]; omega
                    have HE : Hid (kstep subN n (j + 1) (L, e) = _) := Lib.hid (kstep_mid subN (by rw [HZX.out]; exact Nat.ne_of_gt HZ.out) ⟨H8.out, h4⟩ HQ.out.1)
                    clear h4
                    go_upto_region 16 with fail
                    (refine wp_region_quiet_tail (C := fun w' => Below w2.drew.heap.size w2.drew w') 16 (by kernel_rfl) (by kernel_rfl) (Below.refl _ _) ?_; simp only [List.take_succ_cons, List.take_zero, List.drop_succ_cons, List.drop_zero])
                    ((with_reducible refine wpQuiet_step (fun K hK => ?_)); refine quiet_plainG (.slice (some ⟨g8, o8, none⟩) 4 c8) (by first | rfl | simp [Region.wanted, yielded]) (fun w' hw' => by go_simp) ?_; go_simp; (with_reducible apply hK); clear hK K)
                    ((with_reducible refine wpQuiet_step (fun K hK => ?_)); refine quiet_plainG (.pointer (some ⟨g8, o8, none⟩)) (by first | rfl | simp [Region.wanted, yielded]) (fun w' hw' => by go_simp) ?_; go_simp; (with_reducible apply hK); clear hK K)
                    ((with_reducible refine wpQuiet_step (fun K hK => ?_)); refine quiet_plainG (.int .i64 (q0 : Nat)) (by first | rfl | simp [Region.wanted, yielded]) (fun w' hw' => by have e := (HC.out _ hw').1; go_simp) ?_; go_simp; (with_reducible apply hK); clear hK K)
                    ((with_reducible refine wpQuiet_step (fun K hK => ?_)); refine quiet_callG (.int .i64 (subN q0 : Nat)) 29 #[.int .i64 (q0 : Nat)] (by first | rfl | simp [Region.wanted, yielded]) (fun w' => by go_simp) (fun w' hw' => (subB q0 w').mono (by rintro e w'' ⟨rfl, hb⟩; exact ⟨rfl, hw'.trans (hb.mono hw'.size)⟩)) ?_; go_simp; (with_reducible apply hK); clear hK K)
                    ((with_reducible refine wpQuiet_step (fun K hK => ?_)); refine quiet_plainG (.slice (some ⟨g8, o8, none⟩) 4 c8) (by first | rfl | simp [Region.wanted, yielded]) (fun w' hw' => by go_simp) ?_; go_simp; (with_reducible apply hK); clear hK K)
                    ((with_reducible refine wpQuiet_step (fun K hK => ?_)); refine quiet_plainG (.pointer (some ⟨g8, o8 + 1, none⟩)) (by first | rfl | simp [Region.wanted, yielded]) (fun w' hw' => by go_simp) ?_; go_simp; (with_reducible apply hK); clear hK K)
                    ((with_reducible refine wpQuiet_step (fun K hK => ?_)); refine quiet_plainG (.int .i64 (q1 : Nat)) (by first | rfl | simp [Region.wanted, yielded]) (fun w' hw' => by have e := (HC.out _ hw').2.1; go_simp) ?_; go_simp; (with_reducible apply hK); clear hK K)
                    ((with_reducible refine wpQuiet_step (fun K hK => ?_)); refine quiet_callG (.int .i64 (subN q1 : Nat)) 29 #[.int .i64 (q1 : Nat)] (by first | rfl | simp [Region.wanted, yielded]) (fun w' => by go_simp) (fun w' hw' => (subB q1 w').mono (by rintro e w'' ⟨rfl, hb⟩; exact ⟨rfl, hw'.trans (hb.mono hw'.size)⟩)) ?_; go_simp; (with_reducible apply hK); clear hK K)
                    ((with_reducible refine wpQuiet_step (fun K hK => ?_)); refine quiet_plainG (.slice (some ⟨g8, o8, none⟩) 4 c8) (by first | rfl | simp [Region.wanted, yielded]) (fun w' hw' => by go_simp) ?_; go_simp; (with_reducible apply hK); clear hK K)
                    ((with_reducible refine wpQuiet_step (fun K hK => ?_)); refine quiet_plainG (.pointer (some ⟨g8, o8 + 2, none⟩)) (by first | rfl | simp [Region.wanted, yielded]) (fun w' hw' => by go_simp) ?_; go_simp; (with_reducible apply hK); clear hK K)
                    ((with_reducible refine wpQuiet_step (fun K hK => ?_)); refine quiet_plainG (.int .i64 (q2 : Nat)) (by first | rfl | simp [Region.wanted, yielded]) (fun w' hw' => by have e := (HC.out _ hw').2.2.1; go_simp) ?_; go_simp; (with_reducible apply hK); clear hK K)
                    ((with_reducible refine wpQuiet_step (fun K hK => ?_)); refine quiet_callG (.int .i64 (subN q2 : Nat)) 29 #[.int .i64 (q2 : Nat)] (by first | rfl | simp [Region.wanted, yielded]) (fun w' => by go_simp) (fun w' hw' => (subB q2 w').mono (by rintro e w'' ⟨rfl, hb⟩; exact ⟨rfl, hw'.trans (hb.mono hw'.size)⟩)) ?_; go_simp; (with_reducible apply hK); clear hK K)
                    ((with_reducible refine wpQuiet_step (fun K hK => ?_)); refine quiet_plainG (.slice (some ⟨g8, o8, none⟩) 4 c8) (by first | rfl | simp [Region.wanted, yielded]) (fun w' hw' => by go_simp) ?_; go_simp; (with_reducible apply hK); clear hK K)
                    ((with_reducible refine wpQuiet_step (fun K hK => ?_)); refine quiet_plainG (.pointer (some ⟨g8, o8 + 3, none⟩)) (by first | rfl | simp [Region.wanted, yielded]) (fun w' hw' => by go_simp) ?_; go_simp; (with_reducible apply hK); clear hK K)
                    ((with_reducible refine wpQuiet_step (fun K hK => ?_)); refine quiet_plainG (.int .i64 (q3 : Nat)) (by first | rfl | simp [Region.wanted, yielded]) (fun w' hw' => by have e := (HC.out _ hw').2.2.2; go_simp) ?_; go_simp; (with_reducible apply hK); clear hK K)
                    ((with_reducible refine wpQuiet_step (fun K hK => ?_)); refine quiet_callG (.int .i64 (subN q3 : Nat)) 29 #[.int .i64 (q3 : Nat)] (by first | rfl | simp [Region.wanted, yielded]) (fun w' => by go_simp) (fun w' hw' => (subB q3 w').mono (by rintro e w'' ⟨rfl, hb⟩; exact ⟨rfl, hw'.trans (hb.mono hw'.size)⟩)) ?_; go_simp; (with_reducible apply hK); clear hK K)
                    refine wpQuiet_nil ?_
                    intro w5 hw5
                    have hsu := fun q (hq : q ∈ [q0, q1, q2, q3]) => sub_lt (HQ.out.2 q hq)
                    have HP := Lib.hid (Pick.lit HS8.out.2.1 HS8.out.2.2 hw5 HG.out HE.out (by
                      intro x hx
                      simp only [List.mem_cons, List.not_mem_nil, or_false] at hx
                      rcases hx with rfl | rfl | rfl | rfl
                      · exact hsu q0 (by simp)
                      · exact hsu q1 (by simp)
                      · exact hsu q2 (by simp)
                      · exact hsu q3 (by simp)) rfl 3)
                    clear hsu HS8 hw5
                    go_wp2_with fail
                    go_meet
                    exact HP
                  · have d4 : (((j : Int) + 1) % 8 == 4) = false := by rw [beq_eq_false_iff_ne]; omega
                    have HE : Hid (kstep subN n (j + 1) (L, e) = _) := Lib.hid (kstep_rest subN (by rw [HZX.out]; exact Nat.ne_of_gt HZ.out) (fun h => h4 h.2) HQ.out.1)
                    clear h4
                    go_wp2_with fail
                    go_meet
                    exact Lib.hid ⟨e, _, _, _, _, rfl, rfl, HE.out, HQ.out.2, HS8.out.1, HS8.out.2.1, HS8.out.2.2, hlow⟩
                · have d8 : ((n : Int) == 8) = false := by rw [beq_eq_false_iff_ne]; omega
                  have H8 := Lib.hid h8
                  clear h8
                  have HE : Hid (kstep subN n (j + 1) (L, e) = _) := Lib.hid (kstep_rest subN (by rw [HZX.out]; exact Nat.ne_of_gt HZ.out) (fun h => H8.out h.1) HQ.out.1)
                  go_wp2_with fail
                  go_meet
                  exact Lib.hid ⟨e, _, _, _, _, rfl, rfl, HE.out, HQ.out.2, HS8.out.1, HS8.out.2.1, HS8.out.2.2, hlow⟩
            case rest =>
              obtain ⟨c, u, g8', o8', c8', rfl, rfl, hcp⟩ := hcut.out
              rename_i wc
              clear HS8 HQ hc8 hg8 hlow HG
              obtain ⟨hks, hu, hsu, hsl, hbl, hlim⟩ := hcp
              rw [hks] at HK1
              have hgne : g ≠ g8' := by omega
              have HKS := Lib.hid hks
              have hul : u.length = 4 := by have := hsu.len; rw [iv_len] at this; omega
              have hj1 : 4 * n ≤ 4 * (j + 1) := by have := HJ.out; omega
              obtain ⟨F, hF⟩ : ∃ F : Nat → Nat, F = fun k => u.getD k 0 ^^^ L.getD (4 * (j + 1) - 4 * n + k) 0 := ⟨_, rfl⟩
              rw [← hF] at HK1
              have HIO : Hid (IO w wc (.slice (some ⟨g, off, none⟩) (4 * (j + 1)) cap) (L ++ ml 0 F)) := Lib.hid ⟨by rw [show L ++ ml 0 F = L from List.append_nil L, HLL.out]; exact hsl, fun g' hg' => by simp [vblk] at hg'; omega, hbl⟩
              have HSU := Lib.hid (And.intro hsu (And.intro hu hul))
              have HFF := Lib.hid hF
              clear hks hu hsu hsl hbl hul hF HKS
              have hvne : ∀ x, vblk (.slice (some ⟨g, off, none⟩) (4 * (j + 1)) cap) = some x → x ≠ g8' := fun x hx => by simp [vblk] at hx; omega
              have HNE := Lib.hid hvne
              clear hvne
              have HLL2 := HLL
              go_upto_region 18 with fail
              go_loopw [4, 9] (fun v4 v9 wx => ∃ k : Nat, v9 = .int .i64 k ∧ k ≤ 4 ∧ Hid (IO w wx v4 (L ++ ml k F) ∧ Sg wx 1 (.slice (some ⟨g8', o8', none⟩) 4 c8') 4 (iv u) ∧ ∀ x, vblk v4 = some x → x ≠ g8')) (fun _ v _ => 4 - (intOf v).toNat)
              case atStart => exact ⟨0, rfl, by omega, HIO.out, HSU.out.1, HNE.out⟩
              case round =>
                obtain ⟨k, rfl, hk, hr⟩ := hrel
                have hlk : (L ++ ml k F).length = 4 * (j + 1) + k := by rw [List.length_append, HLL.out, ml_len]
                obtain ⟨N, hN⟩ : ∃ N, N = 4 * (j + 1) + k := ⟨_, rfl⟩
                rw [← hN] at hlk
                have S4 := hr.out.1.sg
                rw [hlk] at S4
                have hN16 : 0 < N := by omega
                obtain ⟨g4, o4, cap4, hv4, k1, k2, kvb, kg, kc, -⟩ := S4.open hN16
                have hvn := hr.out.2.2 _ kvb
                subst hv4
                have HNK := Lib.hid hN
                have hN260 : N ≤ 260 := by omega
                have hNj : 4 * j + 4 ≤ N := by omega
                have HCAP := Lib.hid (And.intro k1 k2)
                have HLK := Lib.hid hlk
                clear hN hlk k1 k2 kvb kc kg
                rcases Nat.lt_or_ge k 4 with h4 | h4
                · obtain ⟨p, hp⟩ : ∃ p, p = 4 * (j + 1) - 4 * n + k := ⟨_, rfl⟩
                  have hpi : 4 * ((j : Int) + 1) - 4 * (n : Int) + (k : Int) = (p : Int) := by omega
                  have hpN : p < N := by omega
                  have hpL : p < 4 * (j + 1) := by omega
                  obtain ⟨x, hx⟩ : ∃ x, x = u.getD k 0 := ⟨_, rfl⟩
                  obtain ⟨y, hy⟩ : ∃ y, y = L.getD p 0 := ⟨_, rfl⟩
                  have hx256 : x < 256 := by rw [hx]; exact HSU.out.2.1.get k
                  have hy256 : y < 256 := by rw [hy]; exact HBY.out.get p
                  have hfk : F k = x ^^^ y := by rw [HFF.out, hx, hy, hp]
                  have hxor := xor64 x y (by omega) (by omega)
                  have HX := Lib.hid (And.intro hxor hfk)
                  have HPI := Lib.hid hpi
                  have hne4 : ¬ (g8' = g4) := fun h => hvn h.symm
                  have B0 : Below wr.heap.size wr wr.drew := below_drewN (Below.refl wr.heap.size wr) 1
                  have C1 : Hid (∀ w', Keeps (fun k => k = g4) wr.drew w' → Sg w' 1 (.slice (some ⟨g8', o8', none⟩) 4 c8') 4 (iv u) ∧ w'.cell? ⟨g8', o8' + k, none⟩ = some (.int .i64 (x : Nat))) := by
                    refine Lib.hid fun w' hw' => ?_
                    have SK := (hr.out.2.1.below B0).keeps hw' (fun q hq => by simp [vblk] at hq; omega)
                    refine ⟨SK, ?_⟩
                    obtain ⟨g9, o9, c9, hv9, -, -, -, -, hc9, -⟩ := SK.open (by decide)
                    simp only [Value.slice.injEq, Option.some.injEq, Addr.mk.injEq, true_and, and_true] at hv9
                    obtain ⟨⟨rfl, rfl⟩, -⟩ := hv9
                    rw [(hc9 k (by omega)).1, iv_get u k (by rw [HSU.out.2.2]; exact h4), hx]
                  have C2 : Hid (∀ w', Rw wr.drew w' → w'.cell? ⟨g4, o4 + p, none⟩ = some (.int .i64 (y : Nat))) := by
                    refine Lib.hid fun w' hw' => ?_
                    obtain ⟨g9, o9, c9, hv9, -, -, -, -, hd9, -⟩ := ((S4.below B0).below hw').open hN16
                    simp only [Value.slice.injEq, Option.some.injEq, Addr.mk.injEq, true_and, and_true] at hv9
                    obtain ⟨⟨rfl, rfl⟩, -⟩ := hv9
                    rw [(hd9 p (by omega)).1, iv_get _ p (by rw [HLK.out]; exact hpN), hy, getD_app1 _ _ (by rw [HLL.out]; exact hpL)]
                  have HS4 := Lib.hid S4
                  have hmk : L ++ ml (k + 1) F = (L ++ ml k F) ++ [x ^^^ y] := by rw [List.append_assoc, ← hfk, ml_succ]
                  have HMK := Lib.hid hmk
                  clear hx hy hfk hxor hpi hp S4 hmk B0
                  go_upto_region 20 with fail
                  (refine Pl.wp_region_plan (fun k => k = g4) [(true, 0), (true, 1), (true, 2), (true, 3), (true, 4), (true, 5), (true, 6), (true, 7), (true, 8), (true, 9), (true, 10), (true, 11), (true, 12), (true, 13), (false, 14), (true, 15), (false, 16), (false, 17), (false, 18)] (by kernel_rfl) (by kernel_rfl) ?_)
                  (refine Pl.plan_head (i := 0) rfl (fun K hK => ?_); refine Pl.plan_plain (.slice (some ⟨g4, o4, none⟩) N cap4) (by first | rfl | simp [Region.wanted, yielded]) (fun w' hw' => by go_simp) ?_; go_simp; (with_reducible apply hK); clear hK K)
                  (refine Pl.plan_head (i := 1) rfl (fun K hK => ?_); refine Pl.plan_plain (.slice (some ⟨g8', o8', none⟩) 4 c8') (by first | rfl | simp [Region.wanted, yielded]) (fun w' hw' => by go_simp) ?_; go_simp; (with_reducible apply hK); clear hK K)
                  (refine Pl.plan_head (i := 2) rfl (fun K hK => ?_); refine Pl.plan_plain (.int .i64 (k : Nat)) (by first | rfl | simp [Region.wanted, yielded]) (fun w' hw' => by go_simp) ?_; go_simp; (with_reducible apply hK); clear hK K)
                  (refine Pl.plan_head (i := 3) rfl (fun K hK => ?_); refine Pl.plan_plain (.pointer (some ⟨g8', o8' + k, none⟩)) (by first | rfl | simp [Region.wanted, yielded]) (fun w' hw' => by go_simp; try (intro hh; omega)) ?_; go_simp; (with_reducible apply hK); clear hK K)
                  (refine Pl.plan_head (i := 4) rfl (fun K hK => ?_); refine Pl.plan_plain (.int .i64 (x : Nat)) (by first | rfl | simp [Region.wanted, yielded]) (fun w' hw' => by have e := (C1.out _ hw').2; go_simp) ?_; go_simp; (with_reducible apply hK); clear hK K)
                  (refine Pl.plan_head (i := 5) rfl (fun K hK => ?_); refine Pl.plan_plain (.slice (some ⟨g4, o4, none⟩) N cap4) (by first | rfl | simp [Region.wanted, yielded]) (fun w' hw' => by go_simp) ?_; go_simp; (with_reducible apply hK); clear hK K)
                  (refine Pl.plan_head (i := 6) rfl (fun K hK => ?_); refine Pl.plan_plain (.int .i64 ((j : Int) + 1)) (by first | rfl | simp [Region.wanted, yielded]) (fun w' hw' => by go_simp) ?_; go_simp; (with_reducible apply hK); clear hK K)
                  (refine Pl.plan_head (i := 7) rfl (fun K hK => ?_); refine Pl.plan_plain (.int .i64 (4 * ((j : Int) + 1))) (by first | rfl | simp [Region.wanted, yielded]) (fun w' hw' => by go_simp; rw [IntKind.wrap_i64]; omega) ?_; go_simp; (with_reducible apply hK); clear hK K)
                  (refine Pl.plan_head (i := 8) rfl (fun K hK => ?_); refine Pl.plan_plain (.int .i64 (n : Nat)) (by first | rfl | simp [Region.wanted, yielded]) (fun w' hw' => by go_simp) ?_; go_simp; (with_reducible apply hK); clear hK K)
                  (refine Pl.plan_head (i := 9) rfl (fun K hK => ?_); refine Pl.plan_plain (.int .i64 (4 * (n : Int))) (by first | rfl | simp [Region.wanted, yielded]) (fun w' hw' => by go_simp; rw [IntKind.wrap_i64]; omega) ?_; go_simp; (with_reducible apply hK); clear hK K)
                  (refine Pl.plan_head (i := 10) rfl (fun K hK => ?_); refine Pl.plan_plain (.int .i64 (4 * ((j : Int) + 1) - 4 * (n : Int))) (by first | rfl | simp [Region.wanted, yielded]) (fun w' hw' => by go_simp; rw [IntKind.wrap_i64]; omega) ?_; go_simp; (with_reducible apply hK); clear hK K)
                  (refine Pl.plan_head (i := 11) rfl (fun K hK => ?_); refine Pl.plan_plain (.int .i64 (k : Nat)) (by first | rfl | simp [Region.wanted, yielded]) (fun w' hw' => by go_simp) ?_; go_simp; (with_reducible apply hK); clear hK K)
                  (refine Pl.plan_head (i := 12) rfl (fun K hK => ?_); refine Pl.plan_plain (.int .i64 (p : Nat)) (by first | rfl | simp [Region.wanted, yielded]) (fun w' hw' => by have e := HPI.out; have e2 : IntKind.i64.wrap (p : Int) = (p : Int) := (by rw [IntKind.wrap_i64]; omega); go_simp) ?_; go_simp; (with_reducible apply hK); clear hK K)
                  (refine Pl.plan_head (i := 13) rfl (fun K hK => ?_); refine Pl.plan_plain (.pointer (some ⟨g4, o4 + p, none⟩)) (by first | rfl | simp [Region.wanted, yielded]) (fun w' hw' => by go_simp; try (intro hh; omega)) ?_; go_simp; (with_reducible apply hK); clear hK K)
                  refine Pl.plan_sole (i := 14) rfl (fun w1 h1 Q1 hQ1 => ?_)
                  have cy := C2.out w1 h1
                  have K1 := Lib.hid ((Keeps.refl (fun k => k = g4) wr.drew).rw h1)
                  go_wp2_with fail
                  refine hQ1 _ _ K1.out ?_
                  clear cy hQ1 Q1
                  (refine Pl.plan_head (i := 15) rfl (fun K hK => ?_); refine Pl.plan_plain (.int .i64 (x ^^^ y : Nat)) (by first | rfl | simp [Region.wanted, yielded]) (fun w' hw' => by have e := HX.out.1; go_simp; try simp [e]) ?_; go_simp; (with_reducible apply hK); clear hK K)
                  refine Pl.plan_sole (i := 16) rfl (fun w2 h2 Q2 hQ2 => ?_)
                  go_wp2_with fail
                  refine hQ2 _ _ ((K1.out.rw h2).alloc _) ?_
                  clear hQ2 Q2
                  refine Pl.plan_sole (i := 17) rfl (fun w3 h3 Q3 hQ3 => ?_)
                  have KA := ((K1.out.rw h2).alloc (.cells #[.int .i64 (x ^^^ y : Nat)] 3)).rw h3
                  have BA : Below wr.heap.size wr w3 := Rw.trans (Rw.trans (Rw.trans (Rw.trans (show Rw wr wr.drew from below_drewN (Below.refl wr.heap.size wr) 1) h1) h2) (below1 w2 (.cells #[.int .i64 (x ^^^ y : Nat)] 3))) h3
                  have SV := Lib.hid (HS4.out.below BA)
                  have SL := Lib.hid ((lit_int w2 3 (x ^^^ y)).below h3)
                  have b1 : N + 1 ≤ maxLen := by unfold maxLen; omega
                  have b2 : (N + 1) * 8 ≤ 140737488355328 := by omega
                  have HB := Lib.hid (And.intro b1 b2)
                  have HA := Lib.hid (And.intro KA BA)
                  clear b1 b2 KA BA h1 h2 h3 C1 C2 K1
                  go_simp
                  refine wpList_append_any _ rfl (.tmp 97) (.tmp 113) 64 rfl 3 i0 (.int .i64 0) 1 8 Tryd.underlying64 I.out I0.out I1.out I2.out rfl (by decide) (.slice (some ⟨g4, o4, none⟩) N cap4) N _ rfl SV.out (.slice (some ⟨w2.heap.size, 0, none⟩) 1 1) 1 _ rfl SL.out (iv_one _) HB.out.1 HB.out.2 ?grow
                  case grow =>
                    intro vo' w4 hs4 hv4 hk4
                    have hg4 : vblk (.slice (some ⟨g4, o4, none⟩) N cap4) = some g4 := by simp [vblk]; have := HCAP.out.1; omega
                    have K4 : Keeps (fun k => k = g4) wr.drew w4 := HA.out.1.trans hk4 (fun q _ hq => by rw [hg4] at hq; exact (Option.some.inj hq).symm)
                    have B0 : Below wr.heap.size wr wr.drew := below_drewN (Below.refl wr.heap.size wr) 1
                    have SU4 := (hr.out.2.1.below B0).keeps K4 (fun q hq => by simp [vblk] at hq; omega)
                    have gw : g8' < wr.heap.size := by
                      obtain ⟨g9, o9, c9, hv9, -, -, hvb, hlt, -, -⟩ := hr.out.2.1.open (by decide)
                      simp only [Value.slice.injEq, Option.some.injEq, Addr.mk.injEq, true_and, and_true] at hv9
                      obtain ⟨⟨rfl, rfl⟩, -⟩ := hv9
                      exact hlt
                    have HN : IO w w4 vo' (L ++ ml (k + 1) F) := by
                      rw [HMK.out]
                      refine hr.out.1.app (m := [x ^^^ y]) HA.out.2 ?_ hv4 hk4
                      rw [HLK.out]
                      exact hs4
                    have NE4 : ∀ q, vblk vo' = some q → q ≠ g8' := fun q hq => by
                      rcases hv4 q hq with h | h
                      · exact hr.out.2.2 q h
                      · have := HA.out.2.size
                        omega
                    have HALL := Lib.hid (And.intro HN (And.intro SU4 NE4))
                    have HK4 := Lib.hid K4
                    clear hs4 hv4 hk4 hg4 K4 B0 SU4 gw HN NE4 hr HA SV SL
                    go_wp2_with fail
                    refine hQ3 _ _ HK4.out ?_
                    clear hQ3 Q3
                    refine Pl.plan_sole (i := 18) rfl (fun w5 h5 Q5 hQ5 => ?_)
                    have HK5 := Lib.hid (HK4.out.rw h5)
                    have HALL5 := Lib.hid (And.intro (HALL.out.1.below h5) (And.intro (HALL.out.2.1.below h5) HALL.out.2.2))
                    clear HALL HK4 h5
                    go_wp2_with fail
                    refine hQ5 _ _ HK5.out ?_
                    clear hQ5 Q5
                    refine Pl.plan_nil (fun w6 h6 => ?_)
                    have HALL6 := Lib.hid (And.intro (HALL5.out.1.below h6) (And.intro (HALL5.out.2.1.below h6) HALL5.out.2.2))
                    clear HALL5 HK5 h6
                    go_wp2_with fail
                    go_roundw
                    case rel => exact ⟨k + 1, by go_num, by omega, HALL6.out⟩
                    case measure => simp [intOf]; omega
                · have hk4 : k = 4 := by omega
                  rw [hk4] at hr
                  clear hk4
                  go_wp2_with fail
                  go_roundw
                  case rel =>
                   exact ⟨m + 1, by rw [HK1.out], by have := HJ.out; go_num, by omega, by rw [HK1.out]; exact Lib.hid hr.out.1⟩
                  case measure => have := HJ.out; simp [intOf]; omega
        · have hm2 : m = 3 * n + 28 := by omega
          have HE := HKM.out (3 * n + 28) hm2.symm
          have HE2 := Lib.hid HE
          clear HE hm2
          go_wp2_with fail
          go_ret
          refine ⟨_, rfl, ?_⟩
          rw [HE2.out]
          exact ⟨by rw [HLL.out]; exact HSQ.out.1, fun g' hg' => by simp [vblk] at hg'; omega, HSQ.out.2⟩
end Go.Proofs.YteleedcpepifjaaDoor
