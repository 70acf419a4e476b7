/-
The document's New.
-/
import Derived.Test.YtaenfkekdhnakaaKRWait
namespace Go.Proofs.Ytaenfkekdhnakaa
open Go.RowKit

def rnS (names : List ByteArray) (f m bt i : Nat) : KS := { names := names.take i, first := f, most := m, beat := bt, state := 0, clock := 0, since := 0, due := 1, fails := 0, wants := List.replicate i 0, asked := [] }
def kzero : List Value := [.slice none 0 0, .int .i64 0, .int .i64 0, .int .i64 0, .int .i64 0, .int .i64 0, .int .i64 0, .int .i64 0, .int .i64 0, .slice none 0 0, .slice none 0 0]
structure NR (w wr : World) (names : List ByteArray) (f m bt i : Nat) (vn vi : Value) : Prop where
  b8 : Blk wr w.heap.size 31 kzero
  b9 : Blk wr (w.heap.size + 1) 31 (kcells (rnS names f m bt i) vn vi (.slice none 0 0))
  sn : Sg wr 1 vn i (svals (names.take i))
  si : Sg wr 1 vi i (List.replicate i (.int .i64 0))
  nn : ∀ g, vblk vn = some g → w.heap.size + 2 ≤ g
  ni : ∀ g, vblk vi = some g → w.heap.size + 2 ≤ g
  ap : apt vn vi
  bel : Below w.heap.size w wr
theorem NR.first {w wr : World} {names : List ByteArray} {f m bt i : Nat} {vn vi : Value} (h : NR w wr names f m bt i vn vi) {o : Obj} {w2 : World} (hk2 : Keeps (fun k => vblk vn = some k) (wr.alloc o) w2) :
    Blk w2 (w.heap.size + 1) 31 (kcells (rnS names f m bt i) vn vi (.slice none 0 0)) :=
  hk2.blk (h.b9.alloc o) (fun e => by have := h.nn _ e; omega)
theorem NR.isAt {w wr : World} {names : List ByteArray} {f m bt i : Nat} {vn vi vn2 : Value} (h : NR w wr names f m bt i vn vi) {o : Obj} {w2 : World} (hk2 : Keeps (fun k => vblk vn = some k) (wr.alloc o) w2) :
    Sg (w2.setCell ⟨w.heap.size + 1, 0, none⟩ vn2) 1 vi i (List.replicate i (.int .i64 0)) := by
  have b1 : Below wr.heap.size wr (wr.alloc o) := (Below.refl _ _).alloc (Nat.le_refl _) _
  have h1 := (h.si.below b1).keeps hk2 (fun g hg e => h.ap g e hg)
  exact h1.keeps ((Keeps.refl (fun k => k = w.heap.size + 1) w2).set _ 0 _ (fun _ => rfl)) (fun g hg e => by have := h.ni g hg; omega)
theorem NR.next {w wr : World} {names : List ByteArray} {f m bt i : Nat} {vn vi : Value} (h : NR w wr names f m bt i vn vi) (hi : i < names.length)
    {w2 w4 : World} {o1 o2 : Obj} {vn2 vi2 : Value} {g' g2 : Nat}
    (hs2 : Sg w2 1 vn2 (i + 1) (svals (names.take i) ++ [.string (names.getD i ⟨#[]⟩)])) (hk2 : Keeps (fun k => vblk vn = some k) (wr.alloc o1) w2) (hv2 : vblk vn2 = some g') (hg2 : vblk vn = some g' ∨ wr.heap.size + 1 ≤ g')
    (hs4 : Sg w4 1 vi2 (i + 1) (List.replicate i (.int .i64 0) ++ [.int .i64 0])) (hk4 : Keeps (fun k => vblk vi = some k) ((w2.setCell ⟨w.heap.size + 1, 0, none⟩ vn2).alloc o2) w4) (hv4 : vblk vi2 = some g2) (hg4 : vblk vi = some g2 ∨ w2.heap.size + 1 ≤ g2) :
    NR w (w4.setCell ⟨w.heap.size + 1, 9, none⟩ vi2) names f m bt (i + 1) vn2 vi2 := by
  obtain ⟨w3, e3⟩ : ∃ w3, w3 = w2.setCell ⟨w.heap.size + 1, 0, none⟩ vn2 := ⟨_, rfl⟩
  have b1 : Below wr.heap.size wr (wr.alloc o1) := (Below.refl _ _).alloc (Nat.le_refl _) _
  have b3 : Below w3.heap.size w3 (w3.alloc o2) := (Below.refl _ _).alloc (Nat.le_refl _) _
  have z0 := h.b9.lt
  have z1 : (wr.alloc o1).heap.size = wr.heap.size + 1 := by simp
  have z2 : w3.heap.size = w2.heap.size := by rw [e3]; simp [World.setCell]
  have z2' := hk2.size
  have z3 : (w3.alloc o2).heap.size = w3.heap.size + 1 := by simp
  have i3 := h.isAt (vn2 := vn2) hk2
  have B2 := h.first hk2
  have B3 := B2.set 0 vn2
  rw [← e3] at hk4 i3 B3
  have n2 : ∀ g, vblk vn2 = some g → w.heap.size + 2 ≤ g := fun g hg => by
    rw [hv2] at hg
    obtain rfl := Option.some.inj hg
    rcases hg2 with h1 | h1
    · exact h.nn _ h1
    · omega
  have B4 := (hk4.blk (B3.alloc o2) (fun e => by have := h.ni _ e; omega)).set 9 vi2
  have kk3 : Keeps (fun k => k = w.heap.size + 1) w2 w3 := by rw [e3]; exact (Keeps.refl _ w2).set _ 0 _ (fun _ => rfl)
  have kk5 : Keeps (fun k => k = w.heap.size + 1) w4 (w4.setCell ⟨w.heap.size + 1, 9, none⟩ vi2) := (Keeps.refl _ w4).set _ 9 _ (fun _ => rfl)
  have A8 := kk5.blk (hk4.blk ((kk3.blk (hk2.blk (h.b8.alloc o1) (fun e => by have := h.nn _ e; omega)) (by omega)).alloc o2) (fun e => by have := h.ni _ e; omega)) (by omega)
  have hap : vblk vi ≠ some g' := fun e => by
    rcases hg2 with h1 | h1
    · exact h.ap _ h1 e
    · have := h.si.lt e; omega
  have m2 : ∀ g, vblk vi2 = some g → w.heap.size + 2 ≤ g := fun g hg => by
    rw [hv4] at hg
    obtain rfl := Option.some.inj hg
    rcases hg4 with h1 | h1
    · exact h.ni _ h1
    · omega
  have e1 : names.take (i + 1) = names.take i ++ [names.getD i ⟨#[]⟩] := by
    rw [List.take_add_one]; simp [hi]
  have e2 : List.replicate (i + 1) (Value.int .i64 0) = List.replicate i (.int .i64 0) ++ [.int .i64 0] := by rw [List.replicate_succ']
  refine { b8 := A8, b9 := ?_, sn := ?_, si := ?_, nn := n2, ni := m2, ap := ?_, bel := ?_ }
  · exact B4
  · have hh := ((hs2.keeps kk3 (fun g hg e => by have := n2 g hg; omega)).below b3).keeps hk4 (fun g hg e => by rw [hv2] at hg; obtain rfl := Option.some.inj hg; exact hap e)
    have hh2 := hh.keeps kk5 (fun g hg e => by have := n2 g hg; omega)
    rw [e1]; simpa [svals] using hh2
  · rw [e2]; exact hs4.keeps kk5 (fun g hg e => by have := m2 g hg; omega)
  · intro g hg hg'
    rw [hv2] at hg
    obtain rfl := Option.some.inj hg
    rw [hv4] at hg'
    obtain rfl := Option.some.inj hg'
    rcases hg4 with h1 | h1
    · exact hap h1
    · have := hs2.lt hv2; omega
  · have q1 := h.bel.trans (b1.mono h.bel.size)
    have zz := h.bel.size
    have q2 := q1.trans (hk2.below (by omega) (fun k hk e => by have := h.nn _ e; omega))
    have q3 := q2.trans (kk3.below (by omega) (fun k hk e => by omega))
    have q4 := q3.trans (b3.mono (by omega))
    have q5 := q4.trans (hk4.below (by omega) (fun k hk e => by have := h.ni _ e; omega))
    have q6 := hk4.size
    exact q5.trans (kk5.below (by omega) (fun k hk e => by omega))
theorem keeper_size : (Try.prog.info? 31).map (·.size) = some 11 := by kernel_rfl
/-- a whole keeper stored into its block -/
theorem put_blk {w : World} {b : Nat} {t : TypeId} {cs : List Value} (h : Blk w b t cs) (hc : cs.length = 11) (x0 x1 x2 x3 x4 x5 x6 x7 x8 x9 x10 : Value) :
    Blk (((((((((((w.setCell ⟨b, 0, none⟩ x0).setCell ⟨b, 1, none⟩ x1).setCell ⟨b, 2, none⟩ x2).setCell ⟨b, 3, none⟩ x3).setCell ⟨b, 4, none⟩ x4).setCell ⟨b, 5, none⟩ x5).setCell ⟨b, 6, none⟩ x6).setCell ⟨b, 7, none⟩ x7).setCell ⟨b, 8, none⟩ x8).setCell ⟨b, 9, none⟩ x9).setCell ⟨b, 10, none⟩ x10) b t [x0, x1, x2, x3, x4, x5, x6, x7, x8, x9, x10] ∧
    Keeps (fun k => k = b) w (((((((((((w.setCell ⟨b, 0, none⟩ x0).setCell ⟨b, 1, none⟩ x1).setCell ⟨b, 2, none⟩ x2).setCell ⟨b, 3, none⟩ x3).setCell ⟨b, 4, none⟩ x4).setCell ⟨b, 5, none⟩ x5).setCell ⟨b, 6, none⟩ x6).setCell ⟨b, 7, none⟩ x7).setCell ⟨b, 8, none⟩ x8).setCell ⟨b, 9, none⟩ x9).setCell ⟨b, 10, none⟩ x10) := by
  refine ⟨?_, ?_⟩
  · have := ((((((((((h.set 0 x0).set 1 x1).set 2 x2).set 3 x3).set 4 x4).set 5 x5).set 6 x6).set 7 x7).set 8 x8).set 9 x9).set 10 x10
    match cs, hc with
    | [_, _, _, _, _, _, _, _, _, _, _], _ => exact this
  · exact ((((((((((((Keeps.refl (fun k => k = b) w).set b 0 x0 (fun _ => rfl)).set b 1 x1 (fun _ => rfl)).set b 2 x2 (fun _ => rfl)).set b 3 x3 (fun _ => rfl)).set b 4 x4 (fun _ => rfl)).set b 5 x5 (fun _ => rfl)).set b 6 x6 (fun _ => rfl)).set b 7 x7 (fun _ => rfl)).set b 8 x8 (fun _ => rfl)).set b 9 x9 (fun _ => rfl)).set b 10 x10 (fun _ => rfl))
theorem lit_cell (w : World) (t : TypeId) (cs : List Value) : ∀ (j : Nat) (u : Value), cs[j]? = some u → (w.alloc (.cells cs.toArray t)).cell? (Addr.add ⟨w.heap.size, 0, none⟩ j) = some u := fun j u h => by
  rw [Addr.add_lit, Nat.zero_add]; exact (Blk.new w t cs).cell j u h
set_option maxHeartbeats 4000000 in
set_option maxRecDepth 100000 in
theorem rnew_ok (names : List ByteArray) (v0 : Value) (f m bt : Int) (w : World) (hs : Sg w 1 v0 names.length (svals names)) (hl : names.length ≤ 1000) :
    Calls Try.prog 11 #[v0, .int .i64 f, .int .i64 m, .int .i64 bt] w fun e w' => ∃ vn vi, e = .returned (rv (newS names f m bt) vn vi (.slice none 0 0)) ∧ RX w' (newS names f m bt) vn vi (.slice none 0 0) ∧
      (∀ g, vblk vn = some g → w.heap.size ≤ g) ∧ (∀ g, vblk vi = some g → w.heap.size ≤ g) ∧ Below w.heap.size w w' := by
  obtain ⟨i0, hi, hz0, hz1, hz2⟩ := info_parts intInfo
  obtain ⟨j0, hj, hy0, hy1, hy2⟩ := info_parts strInfo
  have I := Lib.hid hi
  have I0 := Lib.hid hz0
  have I1 := Lib.hid hz1
  have I2 := Lib.hid hz2
  have J := Lib.hid hj
  have J0 := Lib.hid hy0
  have J1 := Lib.hid hy1
  have J2 := Lib.hid hy2
  clear hi hz0 hz1 hz2 hj hy0 hy1 hy2
  obtain ⟨n, hn⟩ : ∃ n, n = names.length := ⟨_, rfl⟩
  rw [← hn] at hs hl
  have HN := Lib.hid hn
  have HS := Lib.hid hs
  obtain ⟨ao, cap, rfl⟩ := hs.shape
  have F2 : clampN f ≤ 1048576 := by unfold clampN; omega
  have F1 : 1 ≤ clampN f := by unfold clampN; omega
  have G2 : clampN bt ≤ 1048576 := by unfold clampN; omega
  have hcf : (1048576 < f ∧ (clampN f : Int) = 1048576) ∨ (f ≤ 1048576 ∧ 1 < f ∧ (clampN f : Int) = f) ∨ (f ≤ 1048576 ∧ f ≤ 1 ∧ (clampN f : Int) = 1) := by unfold clampN; omega
  have hcb : (1048576 < bt ∧ (clampN bt : Int) = 1048576) ∨ (bt ≤ 1048576 ∧ 1 < bt ∧ (clampN bt : Int) = bt) ∨ (bt ≤ 1048576 ∧ bt ≤ 1 ∧ (clampN bt : Int) = 1) := by unfold clampN; omega
  have hcm : (1048576 < m ∧ (clampN f : Int) < 1048576 ∧ (((max (clampN f : Int) (min m 1048576)).toNat : Nat) : Int) = 1048576) ∨ (1048576 < m ∧ 1048576 ≤ (clampN f : Int) ∧ (((max (clampN f : Int) (min m 1048576)).toNat : Nat) : Int) = clampN f) ∨ (m ≤ 1048576 ∧ (clampN f : Int) < m ∧ (((max (clampN f : Int) (min m 1048576)).toNat : Nat) : Int) = m) ∨ (m ≤ 1048576 ∧ m ≤ (clampN f : Int) ∧ (((max (clampN f : Int) (min m 1048576)).toNat : Nat) : Int) = clampN f) := by omega
  obtain ⟨s, hns⟩ : ∃ s, s = newS names f m bt := ⟨_, rfl⟩
  rw [← hns]
  have HNS : Hid (s = rnS names (clampN f) (max (clampN f : Int) (min m 1048576)).toNat (clampN bt) (min n 16)) := by
    rw [hns]
    unfold newS rnS
    have e1 : (names.take 16).length = min n 16 := by rw [List.length_take, hn, Nat.min_comm]
    have e2 : names.take (min n 16) = names.take 16 := by
      rcases Nat.le_total n 16 with h | h
      · rw [Nat.min_eq_left h, List.take_of_length_le (by omega), List.take_of_length_le (by omega)]
      · rw [Nat.min_eq_right h]
    rw [e1, e2]
    exact Lib.hid rfl
  generalize (max (clampN f : Int) (min m 1048576)).toNat = M at *
  generalize clampN f = F at *
  generalize clampN bt = B at *
  clear hs hn hns
  go_enter Try.func11, Try.ntmps11
  go_upto_region 1 with fail
  refine wp_gen (fun wx => Blk wx w.heap.size 31 kzero ∧ wx.heap.size = w.heap.size + 1 ∧ Below w.heap.size w wx) ⟨Blk.new w _ _, by simp, (Below.refl _ _).alloc (Nat.le_refl _) _⟩ ?_
  rintro w1 ⟨p8, z1, hb1⟩
  have P8 := Lib.hid p8
  have HB1 := Lib.hid hb1
  clear p8 hb1
  go_cut [9] (fun v9 wx => v9 = .pointer (some ⟨w.heap.size + 1, 0, none⟩) ∧ Blk wx w.heap.size 31 kzero ∧ Blk wx (w.heap.size + 1) 31 (kcells (rnS names F 0 B 0) (.slice none 0 0) (.slice none 0 0) (.slice none 0 0)) ∧ Below w.heap.size w wx)
  case first =>
    clear hcm
    rcases hcf with ⟨y1, y2⟩ | ⟨y1, y0, y2⟩ | ⟨y1, y0, y2⟩ <;> rcases hcb with ⟨z3, z2⟩ | ⟨z3, z0, z2⟩ | ⟨z3, z0, z2⟩
    all_goals
      have Y := Lib.hid y2
      have Z := Lib.hid z2
      clear y2 z2
      go_wp2_with fail
      go_meet
      refine ⟨rfl, P8.out.alloc _, ?_, HB1.out.alloc (by have := HB1.out.size; omega) _⟩
      rw [← z1]
      unfold kcells rnS
      rw [Y.out, Z.out]
      exact Blk.new w1 _ _
  case rest =>
  obtain ⟨rfl, p8, p9, hb2⟩ := hcut
  have P8' := Lib.hid p8
  have P9 := Lib.hid p9
  have HB2 := Lib.hid hb2
  clear p8 p9 hb2 P8 HB1 hcf hcb z1
  go_upto_region 2 with fail
  go_cut [] (fun wx => Blk wx w.heap.size 31 kzero ∧ Blk wx (w.heap.size + 1) 31 (kcells (rnS names F M B 0) (.slice none 0 0) (.slice none 0 0) (.slice none 0 0)) ∧ Below w.heap.size w wx)
  case first =>
    rename World => w2
    have c1 : w2.cell? ⟨w.heap.size + 1, 1, none⟩ = some (.int .i64 F) := P9.out.cell 1 _ rfl
    have f2 := P9.out.free 2
    have c2 : w2.cell? ⟨w.heap.size + 1, 2, none⟩ = some (.int .i64 0) := P9.out.cell 2 _ rfl
    rcases hcm with ⟨y1, y0, y2⟩ | ⟨y1, y0, y2⟩ | ⟨y1, y0, y2⟩ | ⟨y1, y0, y2⟩
    all_goals
      have Y := Lib.hid y2
      clear y2
      go_wp2_with fail
      go_meet
      refine ⟨P8'.out.far (by omega) _ _, ?_, below_set' HB2.out _ _ _ (by omega)⟩
      have := P9.out.set 2 (.int .i64 M)
      rw [Y.out] at this
      first | exact this | (unfold kcells rnS; rw [Y.out]; exact this)
  case rest =>
  obtain ⟨q8, q9, hb3⟩ := hcut
  rename World => w3
  have R0 : Hid (NR w w3 names F M B 0 (.slice none 0 0) (.slice none 0 0)) := { b8 := q8, b9 := q9, sn := Sg.nil _ _, si := Sg.nil _ _, nn := fun g h => by simp [vblk] at h, ni := fun g h => by simp [vblk] at h, ap := apt_nil _, bel := hb3 }
  clear q8 q9 hb3 P8' P9 HB2 hcm
  go_wp2_with fail
  go_loopw [27] (fun vi wr => ∃ i : Nat, vi = .int .i64 i ∧ i ≤ n ∧ Hid (∃ vn vi, NR w wr names F M B (min i 16) vn vi)) (fun vi _ => n - (intOf vi).toNat)
  case atStart => exact ⟨0, rfl, by omega, _, _, R0.out⟩
  case round =>
    clear R0
    obtain ⟨i, rfl, hi, hR⟩ := hrel
    by_cases hgo : i < n
    · obtain ⟨vn, vi, hR1⟩ := hR.out
      have R := Lib.hid hR1
      clear hR hR1
      obtain ⟨g, off, hao⟩ : ∃ g off, ao = some ⟨g, off, none⟩ := by
        obtain ⟨g, off, cap', hv, _⟩ := HS.out.open (by omega)
        simp only [Value.slice.injEq] at hv
        exact ⟨g, off, hv.1⟩
      subst hao
      have hcs := HS.out.cellAt i hgo
      have hgl : g < w.heap.size := HS.out.lt hcs.2.2.1
      have cN : wr.cell? ⟨g, off + i, none⟩ = some (.string (names.getD i ⟨#[]⟩)) := by
        have h1 := (HS.out.below R.out.bel).cellAt i hgo
        rw [h1.1, svals_get _ _ (by rw [← HN.out]; exact hgo)]
      have hnc := hcs.2.2.2.1
      have hcm := hcs.2.2.2.2
      unfold maxLen at hcm
      obtain ⟨nm, hnm⟩ : ∃ nm, nm = names.getD i ⟨#[]⟩ := ⟨_, rfl⟩
      rw [← hnm] at cN
      have HNM := Lib.hid hnm
      clear hcs hnm
      by_cases h16 : i < 16
      · have hmin : min i 16 = i := by omega
        rw [hmin] at R
        clear hmin
        have c0 := R.out.b9.cell 0 _ rfl
        have SN := Lib.hid (R.out.sn.below ((Below.refl _ wr).alloc (Nat.le_refl _) (.cells #[.string nm] 9)))
        have g16 : ((i : Int) < 16) = True := eq_true (by omega)
        go_wp2_with (at_builtin; refine wpList_append_sg _ rfl (.tmp 35) (.tmp 37) 22 rfl 9 j0 (.string ⟨#[]⟩) 1 16 Try.underlying22 J.out J0.out J1.out J2.out rfl (by decide) vn _ _ rfl SN.out ⟨wr.heap.size, 0, none⟩ 1 1 [.string nm] rfl rfl ?c1 ?c2 (by decide) ?b1 ?b2 ?grow)
        case c1 => exact lit_cell wr 9 [.string nm]
        case c2 => intro u hu; rw [List.mem_singleton.1 hu]; rfl
        case b1 => unfold maxLen; omega
        case b2 => omega
        case grow =>
          intro g' off2 cap2 w2 hs2 hv2 hg2 hk2
          have B2 := Lib.hid (R.out.first hk2)
          have f0 := B2.out.free 0
          have c0' := B2.out.cell 0 _ rfl
          have IA := Lib.hid (R.out.isAt (vn2 := .slice (some ⟨g', off2, none⟩) (i + 1) cap2) hk2)
          have B3 := Lib.hid (B2.out.set 0 (.slice (some ⟨g', off2, none⟩) (i + 1) cap2))
          have S2 := Lib.hid hs2
          have V2 := Lib.hid hv2
          have G2 := Lib.hid hg2
          have KK2 := Lib.hid hk2
          clear hs2 hv2 hg2 hk2 SN c0
          go_upto_region 8 with fail
          obtain ⟨w3, e3⟩ : ∃ w3, w3 = w2.setCell ⟨w.heap.size + 1, 0, none⟩ (.slice (some ⟨g', off2, none⟩) (i + 1) cap2) := ⟨_, rfl⟩
          rw [← e3] at IA B3 ⊢
          have E3 := Lib.hid e3
          clear e3 c0' f0
          have c9 := B3.out.cell 9 _ rfl
          have SI := Lib.hid (IA.out.below ((Below.refl _ w3).alloc (Nat.le_refl _) (.cells #[.int .i64 0] 3)))
          go_wp2_with (at_builtin; refine wpList_append_sg _ rfl (.tmp 41) (.tmp 42) 25 rfl 3 i0 (.int .i64 0) 1 8 Try.underlying25 I.out I0.out I1.out I2.out rfl (by decide) vi _ _ rfl SI.out ⟨w3.heap.size, 0, none⟩ 1 1 [.int .i64 0] rfl rfl ?d1 ?d2 (by decide) ?e1 ?e2 ?grow2)
          case d1 => exact lit_cell w3 3 [.int .i64 0]
          case d2 => intro u hu; rw [List.mem_singleton.1 hu]; rfl
          case e1 => unfold maxLen; omega
          case e2 => omega
          case grow2 =>
            intro g2 off3 cap4 w4 hs4 hv4 hg4 hk4
            have hsz : w3.heap.size = w2.heap.size := by rw [E3.out]; simp [World.setCell]
            have R2 := Lib.hid (R.out.next (by rw [← HN.out]; exact hgo) (by rw [← HNM.out]; exact S2.out) KK2.out V2.out (by simpa using G2.out) hs4 (by rw [← E3.out]; exact hk4) hv4 (hg4.imp id (fun h => by omega)))
            have B4 := hk4.blk (B3.out.alloc (.cells #[.int .i64 0] 3)) (fun e => by have := R.out.ni _ e; omega)
            have f9 := B4.free 9
            have c9' := B4.cell 9 _ rfl
            clear hs4 hv4 hg4 hk4 B4 c9
            go_wp2_with fail
            go_roundw
            case rel => exact ⟨i + 1, by go_num, by omega, _, _, by rw [show min (i + 1) 16 = i + 1 by omega]; exact R2.out⟩
            case measure => simp [intOf]; omega
      · have hmin : min (i + 1) 16 = min i 16 := by omega
        have g16 : ((i : Int) < 16) = False := eq_false (by omega)
        rw [← hmin] at R
        clear hmin
        go_wp2_with fail
        go_roundw
        case rel => exact ⟨i + 1, by go_num, by omega, _, _, R.out⟩
        case measure => simp [intOf]; omega
    · have hin : i = n := by omega
      rw [hin] at hR
      obtain ⟨vn, vi, hR1⟩ := hR.out
      obtain ⟨an, cn, rfl⟩ := hR1.sn.shape
      obtain ⟨ai, ci, rfl⟩ := hR1.si.shape
      have R := Lib.hid hR1
      clear hR hR1 hin
      obtain ⟨k, hk⟩ : ∃ k, k = min n 16 := ⟨_, rfl⟩
      rw [← hk] at R HNS
      have hk16 : k ≤ 16 ∧ k ≤ n := by omega
      clear hk
      have p8 := R.out.b8
      have p9 := R.out.b9
      have z9 : w.heap.size + 1 < wr.heap.size := p9.lt
      have c0 := p9.cell 0 _ rfl
      have d0 := p8.cell 0 _ rfl
      have f0 := p8.free 0
      have c1 := p9.cell 1 _ rfl
      have d1 := p8.cell 1 _ rfl
      have f1 := p8.free 1
      have c2 := p9.cell 2 _ rfl
      have d2 := p8.cell 2 _ rfl
      have f2 := p8.free 2
      have c3 := p9.cell 3 _ rfl
      have d3 := p8.cell 3 _ rfl
      have f3 := p8.free 3
      have c4 := p9.cell 4 _ rfl
      have d4 := p8.cell 4 _ rfl
      have f4 := p8.free 4
      have c5 := p9.cell 5 _ rfl
      have d5 := p8.cell 5 _ rfl
      have f5 := p8.free 5
      have c6 := p9.cell 6 _ rfl
      have d6 := p8.cell 6 _ rfl
      have f6 := p8.free 6
      have c7 := p9.cell 7 _ rfl
      have d7 := p8.cell 7 _ rfl
      have f7 := p8.free 7
      have c8 := p9.cell 8 _ rfl
      have d8 := p8.cell 8 _ rfl
      have f8 := p8.free 8
      have c9 := p9.cell 9 _ rfl
      have d9 := p8.cell 9 _ rfl
      have f9 := p8.free 9
      have c10 := p9.cell 10 _ rfl
      have d10 := p8.cell 10 _ rfl
      have f10 := p8.free 10
      clear p8 p9
      simp only [rnS] at c1 c2 c3 c4 c5 c6 c7 c8
      go_wp2_with fail
      have PB := put_blk R.out.b8 rfl (.slice an k cn) (.int .i64 F) (.int .i64 M) (.int .i64 B) (.int .i64 0) (.int .i64 0) (.int .i64 0) (.int .i64 1) (.int .i64 0) (.slice ai k ci) (.slice none 0 0)
      refine ret_stru rfl PB.1 Try.underlying31 keeper_size rfl rfl ⟨.slice an k cn, .slice ai k ci, ?_, ?_, ?_, ?_, ?_⟩
      · rw [HNS.out]; rfl
      · have hl1 : (names.take k).length = k := by rw [List.length_take, ← HN.out]; omega
        have hn1 := R.out.sn.keeps PB.2 (fun g hg e => by have := R.out.nn g hg; omega)
        have hi1 := R.out.si.keeps PB.2 (fun g hg e => by have := R.out.ni g hg; omega)
        rw [HNS.out]
        refine ⟨?_, ?_, Sg.nil _ _⟩
        · show Sg _ 1 _ (names.take k).length (svals (names.take k))
          rw [hl1]; exact hn1
        · show Sg _ 1 _ (List.replicate k 0).length (nvals (List.replicate k 0))
          rw [List.length_replicate, show nvals (List.replicate k 0) = List.replicate k (.int .i64 0) by simp [nvals]]
          exact hi1
      · intro g hg; have := R.out.nn g hg; omega
      · intro g hg; have := R.out.ni g hg; omega
      · exact R.out.bel.trans (PB.2.below (by omega) (fun k hk e => by omega))
end Go.Proofs.Ytaenfkekdhnakaa
