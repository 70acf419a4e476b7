/-
The document's ask, walked.
-/
import Derived.Test.YtaenfkekdhnakaaKRef
import Derived.Test.YtaenfkekdhnakaaSgAny
namespace Go.Proofs.Ytaenfkekdhnakaa
open Go.RowKit

theorem K2.keeps {w wx wy : World} {b : Nat} {s : KS} {vn vi va : Value} {F : Nat → Prop} (h : K2 w wx b s vn vi va) (hk : Keeps F wx wy) (hF : ∀ g, F g → b + 2 ≤ g) : K2 w wy b s vn vi va := by
  obtain ⟨cs, hl, hr⟩ := h.res
  exact ⟨hk.blk h.own (fun e => by have := hF _ e; omega), ⟨cs, hl, hk.blk hr (fun e => by have := hF _ e; omega)⟩, h.bel.trans (hk.below h.bel.size (fun k hk' e => by have := hF _ e; have := h.lo; omega)), h.lo⟩
/-- asking under way: what the new slices hold -/
structure RA (w wr : World) (s : KS) (vn vi va : Value) (vo vas vis : Value) (x : List Nat × List Int × List (Nat × ByteArray)) : Prop where
  k2 : K2 w wr w.heap.size s vn vi va
  so : Sg wr 2 vo x.2.2.length (avals x.2.2)
  sa : Sg wr 1 vas x.2.1.length (zvals x.2.1)
  si : Sg wr 1 vis x.1.length (nvals x.1)
  no : ∀ g, vblk vo = some g → w.heap.size + 2 ≤ g
  na : ∀ g, vblk vas = some g → w.heap.size + 2 ≤ g
  ni : ∀ g, vblk vis = some g → w.heap.size + 2 ≤ g
  oa : apt vo vas
  oi : apt vo vis
  ai : apt vas vis
variable {w wr wy : World} {s : KS} {vn vi va vo vas vis : Value} {x : List Nat × List Int × List (Nat × ByteArray)}
theorem RA.lt (h : RA w wr s vn vi va vo vas vis x) : w.heap.size + 2 ≤ wr.heap.size := by obtain ⟨_, _, hr⟩ := h.k2.res; have := hr.lt; omega
theorem RA.below (h : RA w wr s vn vi va vo vas vis x) (hb : Below wr.heap.size wr wy) : RA w wy s vn vi va vo vas vis x :=
  { h with k2 := h.k2.below hb, so := h.so.below hb, sa := h.sa.below hb, si := h.si.below hb }
theorem RA.putO (h : RA w wr s vn vi va vo vas vis x) (hk : Keeps (fun k => vblk vo = some k) wr wy) {vo' : Value} {l : List (Nat × ByteArray)} (hs : Sg wy 2 vo' l.length (avals l)) (hv : ∀ g, vblk vo' = some g → vblk vo = some g ∨ wr.heap.size ≤ g) :
    RA w wy s vn vi va vo' vas vis (x.1, x.2.1, l) where
  k2 := h.k2.keeps hk (fun g hg => h.no g hg)
  so := hs
  sa := h.sa.keeps hk (fun g hg e => h.oa g e hg)
  si := h.si.keeps hk (fun g hg e => h.oi g e hg)
  no := fun g hg => (hv g hg).elim (h.no g) (fun e => by have := h.lt; omega)
  na := h.na
  ni := h.ni
  oa := fun g hg e => (hv g hg).elim (fun h1 => h.oa g h1 e) (fun h1 => by have := h.sa.lt e; omega)
  oi := fun g hg e => (hv g hg).elim (fun h1 => h.oi g h1 e) (fun h1 => by have := h.si.lt e; omega)
  ai := h.ai
theorem RA.putA (h : RA w wr s vn vi va vo vas vis x) (hk : Keeps (fun k => vblk vas = some k) wr wy) {vas' : Value} {l : List Int} (hs : Sg wy 1 vas' l.length (zvals l)) (hv : ∀ g, vblk vas' = some g → vblk vas = some g ∨ wr.heap.size ≤ g) :
    RA w wy s vn vi va vo vas' vis (x.1, l, x.2.2) where
  k2 := h.k2.keeps hk (fun g hg => h.na g hg)
  so := h.so.keeps hk (fun g hg e => h.oa g hg e)
  sa := hs
  si := h.si.keeps hk (fun g hg e => h.ai g e hg)
  no := h.no
  na := fun g hg => (hv g hg).elim (h.na g) (fun e => by have := h.lt; omega)
  ni := h.ni
  oa := fun g hg e => (hv g e).elim (fun h1 => h.oa g hg h1) (fun h1 => by have := h.so.lt hg; omega)
  oi := h.oi
  ai := fun g hg e => (hv g hg).elim (fun h1 => h.ai g h1 e) (fun h1 => by have := h.si.lt e; omega)
theorem RA.putI (h : RA w wr s vn vi va vo vas vis x) (hk : Keeps (fun k => vblk vis = some k) wr wy) {vis' : Value} {l : List Nat} (hs : Sg wy 1 vis' l.length (nvals l)) (hv : ∀ g, vblk vis' = some g → vblk vis = some g ∨ wr.heap.size ≤ g) :
    RA w wy s vn vi va vo vas vis' (l, x.2.1, x.2.2) where
  k2 := h.k2.keeps hk (fun g hg => h.ni g hg)
  so := h.so.keeps hk (fun g hg e => h.oi g hg e)
  sa := h.sa.keeps hk (fun g hg e => h.ai g hg e)
  si := hs
  no := h.no
  na := h.na
  ni := fun g hg => (hv g hg).elim (h.ni g) (fun e => by have := h.lt; omega)
  oa := h.oa
  oi := fun g hg e => (hv g e).elim (fun h1 => h.oi g hg h1) (fun h1 => by have := h.so.lt hg; omega)
  ai := fun g hg e => (hv g e).elim (fun h1 => h.ai g hg h1) (fun h1 => by have := h.sa.lt hg; omega)
theorem RA.clear (h : RA w wr s vn vi va vo vas vis x) {gi oi n ci : Nat} (hv : vis = .slice (some ⟨gi, oi, none⟩) n ci) (hl : x.1.length = n) (hvb : vblk vis = some gi) (i : Nat) (hi : i < n) :
    RA w (wr.setCell ⟨gi, oi + i, none⟩ (.int .i64 0)) s vn vi va vo vas vis (x.1.set i 0, x.2.1, x.2.2) := by
  subst hv
  have h1 := h.si
  rw [hl] at h1
  have h2 := h1.set i hi (.int .i64 0)
  refine h.putI ((Keeps.refl _ wr).set gi _ _ (fun _ => hvb)) ?_ (fun g hg => .inl hg)
  rw [List.length_set, hl]
  have e : nvals (x.1.set i 0) = (nvals x.1).set i (.int .i64 0) := by simp [nvals, List.map_set]
  rw [e]; exact h2
theorem RA.addA {w2 : World} {va2 : Value} (h : RA w wr s vn vi va vo vas vis x) (o : Obj) (i : Int) (hs : Sg w2 1 va2 (x.2.1.length + 1) (zvals x.2.1 ++ [.int .i64 i])) (hv : ∀ g, vblk va2 = some g → vblk vas = some g ∨ wr.heap.size + 1 ≤ g) (hk : Keeps (fun k => vblk vas = some k) (wr.alloc o) w2) :
    RA w w2 s vn vi va vo va2 vis (x.1, x.2.1 ++ [i], x.2.2) := by
  refine (h.below (below1 wr o)).putA hk ?_ (fun g hg => (hv g hg).imp id (fun h => by simpa using h))
  rw [List.length_append]
  have e : zvals (x.2.1 ++ [i]) = zvals x.2.1 ++ [.int .i64 i] := by simp [zvals]
  rw [e]; exact hs
theorem RA.addO {w2 : World} {vo2 : Value} (h : RA w wr s vn vi va vo vas vis x) (o : Obj) (k : Nat) (nm : ByteArray) (hs : Sg w2 2 vo2 (x.2.2.length + 1) (avals x.2.2 ++ [.int .i64 k, .string nm])) (hv : ∀ g, vblk vo2 = some g → vblk vo = some g ∨ wr.heap.size + 1 ≤ g) (hk : Keeps (fun k => vblk vo = some k) (wr.alloc o) w2) :
    RA w w2 s vn vi va vo2 vas vis (x.1, x.2.1, x.2.2 ++ [(k, nm)]) := by
  refine (h.below (below1 wr o)).putO hk ?_ (fun g hg => (hv g hg).imp id (fun h => by simpa using h))
  rw [List.length_append, avals_app]
  exact hs
theorem lit_one (w : World) (t : TypeId) (v : Value) : Sg (w.alloc (.cells #[v] t)) 1 (.slice (some ⟨w.heap.size, 0, none⟩) 1 1) 1 [v] := Sg.fresh (Blk.new w t [v]) rfl (by decide)
theorem sg_none (w : World) (size : Nat) (ao : Option Addr) : Sg w size (.slice ao 0 0) 0 [] := ⟨by simp, ao, 0, rfl, Nat.le_refl _, Nat.zero_le _, .inl rfl⟩
theorem vblk_none (ao : Option Addr) (n : Nat) (g : Nat) : ¬ vblk (.slice ao n 0) = some g := by cases ao <;> simp [vblk]
theorem zvals_one (l : List Int) : ∀ y ∈ zvals l, y.oneCell' = true := by intro y hy; obtain ⟨d, _, rfl⟩ := List.mem_map.1 hy; rfl
theorem nvals_one (l : List Nat) : ∀ y ∈ nvals l, y.oneCell' = true := by intro y hy; obtain ⟨d, _, rfl⟩ := List.mem_map.1 hy; rfl
theorem svals_one (l : List ByteArray) : ∀ y ∈ svals l, y.oneCell' = true := by intro y hy; obtain ⟨d, _, rfl⟩ := List.mem_map.1 hy; rfl

set_option maxHeartbeats 4000000 in
set_option maxRecDepth 100000 in
theorem rask_ok (s : KS) (vn vi va : Value) (w : World) (H : RX w s vn vi va) (hnw : s.names.length = s.wants.length) (hfew : s.names.length ≤ 16) (hal : s.asked.length ≤ 17) (so : Nat) (which : Nat → Bool) (hso : (so = 3 ∧ which = fun _ => true) ∨ (so = 2 ∧ which = (· == 2))) :
    Calls Try.prog 23 #[rv s vn vi va, .int .i64 so] w fun e w' => ∃ vi' va' vo, e = .returned (.tuple #[rv (s.askAt which s.names.length) vn vi' va', vo]) ∧ RX w' (s.askAt which s.names.length) vn vi' va' ∧
      Sg w' 2 vo (s.askN which s.names.length).2.2.length (avals (s.askN which s.names.length).2.2) ∧ (∀ g, vblk vi' = some g → w.heap.size ≤ g) ∧ (∀ g, vblk va' = some g → w.heap.size ≤ g) ∧ (∀ g, vblk vo = some g → w.heap.size ≤ g) ∧ Below w.heap.size w w' := by
  obtain ⟨i0, hi, hz0, hz1, hz2⟩ := info_parts intInfo
  obtain ⟨j0, hj, hy0, hy1, hy2⟩ := info_parts (show (Try.prog.info? 45).map (fun i => (i.zero, i.size, i.bytes)) = some (some (.agg #[.int .i64 0, .string ⟨#[]⟩]), 2, 24) by kernel_rfl)
  have I := Lib.hid hi
  have I0 := Lib.hid hz0
  have I1 := Lib.hid hz1
  have I2 := Lib.hid hz2
  have J := Lib.hid hj
  have J0 := Lib.hid hy0
  have J1 := Lib.hid hy1
  have J2 := Lib.hid hy2
  clear hi hz0 hz1 hz2 hj hy0 hy1 hy2
  obtain ⟨an, cn, rfl⟩ := H.names.shape
  obtain ⟨ai, ci, rfl⟩ := H.wants.shape
  obtain ⟨aa, ca, rfl⟩ := H.asked.shape
  have HX := Lib.hid H
  have HNW := Lib.hid hnw
  have HAL := Lib.hid hal
  have K0 := K2.new w s (.slice an s.names.length cn) (.slice ai s.wants.length ci) (.slice aa s.asked.length ca)
  obtain ⟨n, hn⟩ : ∃ n, n = s.names.length := ⟨_, rfl⟩
  have HN := Lib.hid hn
  rw [← hn] at hfew
  unfold rv
  rw [← hn]
  rw [← hn] at K0
  clear H hal hnw hn
  go_enter Try.func23, Try.ntmps23
  go_upto_region 2 with fail
  refine wp_gen (fun wx => K2 w wx w.heap.size s (.slice an n cn) (.slice ai s.wants.length ci) (.slice aa s.asked.length ca)) (K0.below (below1 _ _)) ?_
  rintro w1 K1
  have HK1 := Lib.hid K1
  have SA := Lib.hid ((HX.out.asked.below K1.bel).below (below1 w1 (.cells #[] 3)))
  have c10 := K1.own.cell 10 _ rfl
  have hlt1 : w.heap.size < w1.heap.size := K1.own.lt
  clear K0 K1
  have one1 := zvals_one s.asked
  have hb17 : 0 + s.asked.length ≤ maxLen := by have := HAL.out; unfold maxLen; omega
  have hb18 : (0 + s.asked.length) * 8 ≤ 140737488355328 := by have := HAL.out; omega
  go_wp2_with (at_builtin; refine wpList_append_any _ rfl (.tmp 12) (.tmp 14) 25 rfl 3 i0 (.int .i64 0) 1 8 Try.underlying25 I.out I0.out I1.out I2.out rfl (by decide) _ 0 [] rfl (sg_none _ 1 _) _ s.asked.length (zvals s.asked) rfl SA.out one1 hb17 hb18 ?grow)
  case grow =>
    intro vas w2 hs2 hv2 hk2
    try rw [Nat.zero_add] at hs2
    have b1 := below1 w1 (.cells #[] 3)
    have B2 : Below w1.heap.size w1 w2 := ((Keeps.of_below (F := fun _ => False) b1).trans hk2 (fun k _ h => (vblk_none _ _ _ h).elim)).below (Nat.le_refl _) (fun _ _ h => h)
    have K2' := HK1.out.below B2
    have NA : Hid (∀ g, vblk vas = some g → w1.heap.size + 1 ≤ g) := fun g hg => (hv2 g hg).elim (fun h => (vblk_none _ _ _ h).elim) (fun h => by simpa using h)
    have S2 : Hid (Sg w2 1 vas s.asked.length (zvals s.asked)) := hs2
    have HK2 := Lib.hid K2'
    have Z12 : w1.heap.size + 1 ≤ w2.heap.size := by have := hk2.size; simpa using this
    have SB := Lib.hid ((HX.out.wants.below K2'.bel).below (below1 w2 (.cells #[] 3)))
    have c9 := K2'.own.cell 9 _ rfl
    have hlt2 : w.heap.size < w2.heap.size := K2'.own.lt
    have one2 := nvals_one s.wants
    have hb19 : 0 + s.wants.length ≤ maxLen := by have := HNW.out; have := HN.out; unfold maxLen; omega
    have hb20 : (0 + s.wants.length) * 8 ≤ 140737488355328 := by have := HNW.out; have := HN.out; omega
    clear hs2 hv2 hk2 K2' c10 hlt1 b1 B2 one1 hb17 hb18 SA
    go_wp2_with (at_builtin; refine wpList_append_any _ rfl (.tmp 16) (.tmp 18) 25 rfl 3 i0 (.int .i64 0) 1 8 Try.underlying25 I.out I0.out I1.out I2.out rfl (by decide) _ 0 [] rfl (sg_none _ 1 _) _ s.wants.length (nvals s.wants) rfl SB.out one2 hb19 hb20 ?grow2)
    case grow2 =>
      intro vis w3 hs3 hv3 hk3
      try rw [Nat.zero_add] at hs3
      have b2 := below1 w2 (.cells #[] 3)
      have B3 : Below w2.heap.size w2 w3 := ((Keeps.of_below (F := fun _ => False) b2).trans hk3 (fun k _ h => (vblk_none _ _ _ h).elim)).below (Nat.le_refl _) (fun _ _ h => h)
      have nv : ∀ g, vblk vis = some g → w2.heap.size + 1 ≤ g := fun g hg => (hv3 g hg).elim (fun h => (vblk_none _ _ _ h).elim) (fun h => by simpa using h)
      have z1 : w.heap.size + 2 ≤ w1.heap.size := by obtain ⟨_, _, hr⟩ := HK1.out.res; have := hr.lt; omega
      have R0 : Hid (RA w w3 s (.slice an n cn) (.slice ai s.wants.length ci) (.slice aa s.asked.length ca) (.slice (some ⟨w.heap.size + 1 + 1, 0, none⟩) 0 0) vas vis (s.askN which 0)) :=
        { k2 := HK2.out.below B3, so := sg_none _ _ _, sa := S2.out.below B3, si := hs3, no := fun g h => (vblk_none _ _ _ h).elim, na := fun g h => by have := NA.out g h; omega, ni := fun g h => by have := nv g h; omega
          oa := fun g h => (vblk_none _ _ _ h).elim, oi := fun g h => (vblk_none _ _ _ h).elim, ai := fun g h e => by have := S2.out.lt h; have := nv g e; omega }
      clear hs3 hv3 hk3 b2 B3 nv z1 S2 HK1 HK2 NA Z12 SB c9 hlt2 one2 hb19 hb20
      have c0 := R0.out.k2.own.cell 0 _ rfl
      go_upto_region 5 with fail
      go_loopw [6, 7, 23] (fun vo vas vi wr => ∃ i : Nat, vi = .int .i64 i ∧ i ≤ n ∧ Hid (RA w wr s (.slice an n cn) (.slice ai s.wants.length ci) (.slice aa s.asked.length ca) vo vas vis (s.askN which i))) (fun _ _ vi _ => n - (intOf vi).toNat)
      case atStart => exact ⟨0, rfl, by omega, R0⟩
      case round =>
        clear R0 c0
        obtain ⟨i, rfl, hi, R⟩ := hrel
        by_cases hgo : i < n
        · have hlen := askN_len s which i
          have hwl : (s.askN which i).1.length = n := by rw [hlen.1, ← HNW.out, ← HN.out]
          have hw0 := R.out.si
          rw [hwl] at hw0
          obtain ⟨gw, ow, cw, hvw, -, -, hvbw, -, -, -⟩ := hw0.open (by omega)
          have hn0 := HX.out.names.below R.out.k2.bel
          rw [← HN.out] at hn0
          obtain ⟨gn, on, cn', hvn, hcn, hcn2, -, -, -, -⟩ := hn0.open (by omega)
          simp only [Value.slice.injEq, true_and] at hvn
          obtain ⟨rfl, rfl⟩ := hvn
          rw [hvw] at hw0
          have hcw := hw0.cellAt i hgo
          have hx0 : (nvals (s.askN which i).1)[i]? = some (.int .i64 (s.wants.getD i 0 : Nat)) := by
            rw [nvals_get _ _ (by rw [hwl]; exact hgo), askN_get s which i i (Nat.le_refl _)]
          have cW : wr.cell? ⟨gw, ow + i, none⟩ = some (.int .i64 (s.wants.getD i 0 : Nat)) := hcw.1.trans hx0
          have fW : wr.frozen? ⟨gw, ow + i, none⟩ = false := hcw.2.1
          have cN : wr.cell? ⟨gn, on + i, none⟩ = some (.string (s.names.getD i ⟨#[]⟩)) := ((hn0.cellAt i hgo).1.trans (by
            rw [svals_get _ _ (by rw [← HN.out]; exact hgo)]))
          have HWL := Lib.hid hwl
          have HVW := Lib.hid hvw
          have HVB := Lib.hid hvbw
          have h1 := hlen.2.1
          have h2 := hlen.2.2
          have h3 := HAL.out
          have RC := Lib.hid (R.out.clear hvw hwl hvbw i hgo)
          have hl1 : (s.askN which i).2.1.length + 1 ≤ 40 := by omega
          have hl2 : (s.askN which i).2.2.length + 1 ≤ 40 := by omega
          clear hw0 hn0 hcw hx0 hwl hvbw hlen h1 h2 h3 hcn
          have hve : vis = .slice (some ⟨gw, ow, none⟩) n cw := hvw
          clear hvw
          subst hve
          obtain ⟨y, hy⟩ : ∃ y, y = s.wants.getD i 0 := ⟨_, rfl⟩
          obtain ⟨nm, hnm⟩ : ∃ nm, nm = s.names.getD i ⟨#[]⟩ := ⟨_, rfl⟩
          rw [← hy] at cW
          rw [← hnm] at cN
          have HY := Lib.hid hy
          have HNM := Lib.hid hnm
          clear hy hnm
          cases hwx : which y with
          | false =>
            have e : s.askN which (i + 1) = s.askN which i := by
              show (if which (s.wants.getD i 0) then _ else _) = _
              rw [← HY.out, hwx]; rfl
            have R2 := R
            rw [← e] at R2
            clear e
            rcases hso with ⟨rfl, rfl⟩ | ⟨rfl, rfl⟩
            · cases hwx
            · have hy2 : ((y : Int) == 2) = false := by simp at hwx ⊢; omega
              clear hwx RC HY HNM
              go_wp2_with fail
              go_roundw
              case rel => exact ⟨i + 1, by go_num, by omega, R2⟩
              case measure => simp [intOf]; omega
          | true =>
            have ey : s.askN which (i + 1) = ((s.askN which i).1.set i 0, (s.askN which i).2.1 ++ [(i : Int)], (s.askN which i).2.2 ++ [(2, nm)]) := by
              show (if which (s.wants.getD i 0) then _ else _) = _
              rw [← HY.out, hwx, HNM.out]; rfl
            have EY := Lib.hid ey
            have hy2 : so = 2 → ((y : Int) == 2) = true := fun h => by
              rcases hso with ⟨rfl, rfl⟩ | ⟨rfl, rfl⟩
              · cases h
              · simp at hwx ⊢; omega
            have hs2 : so = 2 ∨ so = 3 := by rcases hso with ⟨rfl, rfl⟩ | ⟨rfl, rfl⟩ <;> simp
            have E1 : Hid (∀ a : List Nat × List Int × List (Nat × ByteArray), a = s.askN which i → s.askN which (i + 1) = (a.1.set i 0, a.2.1 ++ [(i : Int)], a.2.2 ++ [(2, nm)])) := fun a h => by rw [h]; exact ey
            obtain ⟨q, hq⟩ : ∃ q, q = s.askN which i := ⟨_, rfl⟩
            rw [← hq] at RC hl1 hl2 R
            have E2 := Lib.hid (E1.out q hq)
            obtain ⟨q1, q2, q3⟩ := q
            clear hwx HY ey EY E1 hq
            dsimp only at RC hl1 hl2 E2
            rcases hs2 with rfl | rfl
            all_goals
              (first | have hy3 := hy2 rfl | skip)
              clear hy2
              go_upto_region 9 with fail
              generalize World.setCell wr _ _ = w4 at *
              have SA := Lib.hid (RC.out.sa.below (below1 w4 (.cells #[.int .i64 i] 3)))
              have SL := Lib.hid (lit_one w4 3 (.int .i64 i))
              have oneI := zvals_one [(i : Int)]
              have b1 : q2.length + 1 ≤ maxLen := by unfold maxLen; omega
              have b2 : (q2.length + 1) * 8 ≤ 140737488355328 := by omega
              go_wp2_with (at_builtin; refine wpList_append_any _ rfl (.tmp 41) (.tmp 43) 25 rfl 3 i0 (.int .i64 0) 1 8 Try.underlying25 I.out I0.out I1.out I2.out rfl (by decide) _ _ _ rfl SA.out _ 1 _ rfl SL.out oneI b1 b2 ?grow)
              case grow =>
                intro va2 w5 hs5 hv5 hk5
                have RD := Lib.hid (RC.out.addA _ (i : Int) hs5 hv5 hk5)
                clear hs5 hv5 hk5 SA SL b1 b2 cW fW cN
                have SO := Lib.hid (RD.out.so.below (below1 w5 (.cells #[.int .i64 (2 : Nat), .string nm] 45)))
                have SM := Lib.hid (lit_acts w5 45 2 nm)
                have b1 : q3.length + 1 ≤ maxLen := by unfold maxLen; omega
                have b2 : (q3.length + 1) * 24 ≤ 140737488355328 := by omega
                have oneA := avals_one [(2, nm)]
                go_wp2_with (at_builtin; refine wpList_append_any _ rfl (.tmp 45) (.tmp 48) 33 rfl 45 j0 (.agg #[.int .i64 0, .string ⟨#[]⟩]) 2 24 Try.underlying33 J.out J0.out J1.out J2.out rfl (by decide) _ _ _ rfl SO.out _ 1 _ rfl SM.out oneA b1 b2 ?grow2)
                case grow2 =>
                  intro vo2 w6 hs6 hv6 hk6
                  have RE := Lib.hid (RD.out.addO _ 2 nm hs6 hv6 hk6)
                  clear hs6 hv6 hk6 SO SM b1 b2
                  go_wp2_with fail
                  go_roundw
                  case rel => exact ⟨vo2, va2, _, _, _, ⟨i + 1, rfl, by omega, by rw [E2.out]; exact RE⟩, rfl, rfl, rfl, rfl, by go_num⟩
                  case measure => simp [intOf]; omega
        · obtain rfl : i = n := by omega
          obtain ⟨q, hq⟩ : ∃ q, q = s.askN which i := ⟨_, rfl⟩
          have R2 := R
          rw [← hq] at R2
          have HQ := Lib.hid hq
          have EN : s.askAt which i = { s with wants := q.1, asked := q.2.1 } := by unfold KS.askAt; rw [hq]
          obtain ⟨a7, c7, rfl⟩ := R2.out.sa.shape
          obtain ⟨a8, c8, rfl⟩ := R2.out.si.shape
          have K1 := fun v => R2.out.k2.num 10 v { s with asked := q.2.1 } (.slice an i cn) (.slice ai s.wants.length ci) v rfl
          have K3 := Lib.hid (fun v u => (K1 v).num 9 u { s with wants := q.1, asked := q.2.1 } (.slice an i cn) u v rfl)
          have f10 := R2.out.k2.own.free 10
          have f9 := R2.out.k2.own.free 9
          have c10 := R2.out.k2.own.cell 10 _ rfl
          have c9 := R2.out.k2.own.cell 9 _ rfl
          have HEN := Lib.hid EN
          clear K1 EN hq HNW hso
          have K4 := Lib.hid (K3.out (.slice a7 q.2.1.length c7) (.slice a8 q.1.length c8))
          have KK : Hid (Keeps (fun k => k < w.heap.size + 2) wr ((wr.setCell ⟨w.heap.size, 10, none⟩ (.slice a7 q.2.1.length c7)).setCell ⟨w.heap.size, 9, none⟩ (.slice a8 q.1.length c8))) := Lib.hid (((Keeps.refl (fun k => k < w.heap.size + 2) wr).set _ 10 _ (fun _ => by omega)).set _ 9 _ (fun _ => by omega))
          clear K3
          go_upto_region 14 with fail
          generalize World.setCell (World.setCell wr _ _) _ _ = w8 at *
          obtain ⟨cs, hcl, hcs⟩ := K4.out.res
          have HCS := Lib.hid hcs
          have HCL := Lib.hid hcl
          have hone := kc_one { s with wants := q.1, asked := q.2.1 } an a8 a7 i cn q.1.length c8 q.2.1.length c7
          have K9 := Lib.hid (hcs.setRow (kcells { s with wants := q.1, asked := q.2.1 } (.slice an i cn) (.slice a8 q.1.length c8) (.slice a7 q.2.1.length c7)))
          have HB8 := Lib.hid (below_row K4.out.bel (w.heap.size + 1) (kcells { s with wants := q.1, asked := q.2.1 } (.slice an i cn) (.slice a8 q.1.length c8) (.slice a7 q.2.1.length c7)).toArray (by omega))
          have KR := Lib.hid (KK.out.trans (Keeps.row w8 (w.heap.size + 1) (kcells { s with wants := q.1, asked := q.2.1 } (.slice an i cn) (.slice a8 q.1.length c8) (.slice a7 q.2.1.length c7)).toArray) (fun k _ e => by omega))
          clear hcs hcl KK f10 f9 c10 c9
          go_wp2_with (first | refine load_blk K4.out.own Try.underlying31 rfl keeper_size' rfl rfl rfl rfl ?_ | refine store_blk HCS.out keeper_size' rfl HCL.out hone rfl rfl rfl rfl ?_)
          refine ret_stru2 rfl K9.out Try.underlying31 rfl keeper_size' rfl rfl rfl rfl ?_
          have sa := R2.out.sa.keeps KR.out (fun g hg e => by have := R2.out.na g hg; omega)
          have si := R2.out.si.keeps KR.out (fun g hg e => by have := R2.out.ni g hg; omega)
          have so' := R2.out.so.keeps KR.out (fun g hg e => by have := R2.out.no g hg; omega)
          rw [HEN.out]
          refine ⟨.slice a8 q.1.length c8, .slice a7 q.2.1.length c7, u6, rfl, ⟨?_, si, sa⟩, ?_, fun g hg => by have := R2.out.ni g hg; omega, fun g hg => by have := R2.out.na g hg; omega, fun g hg => by have := R2.out.no g hg; omega, HB8.out⟩
          · have := HX.out.names.below HB8.out
            rw [← HN.out] at this
            show Sg _ 1 _ s.names.length _
            rw [← HN.out]; exact this
          · rw [← HQ.out]; exact so'
end Go.Proofs.Ytaenfkekdhnakaa
