/-
The document's Held, walked.
-/
import Derived.Test.YtaenfkekdhnakaaKRef7
namespace Go.Proofs.Ytaenfkekdhnakaa
open Go.RowKit

structure RH (w wr : World) (s : KS) (vn vi va : Value) (vo : Value) (l : List ByteArray) : Prop where
  own : Blk wr w.heap.size 31 (kcells s vn vi va)
  bel : Below w.heap.size w wr
  so : Sg wr 1 vo l.length (svals l)
  no : ∀ g, vblk vo = some g → w.heap.size + 1 ≤ g
theorem RH.add {w wr w2 : World} {s : KS} {vn vi va vo vo2 : Value} {l : List ByteArray} (h : RH w wr s vn vi va vo l) (o : Obj) (nm : ByteArray) (hs : Sg w2 1 vo2 (l.length + 1) (svals l ++ [.string nm])) (hv : ∀ g, vblk vo2 = some g → vblk vo = some g ∨ wr.heap.size + 1 ≤ g) (hk : Keeps (fun k => vblk vo = some k) (wr.alloc o) w2) :
    RH w w2 s vn vi va vo2 (l ++ [nm]) := by
  have b1 := below1 wr o
  have hlt := h.own.lt
  refine ⟨hk.blk (h.own.alloc o) (fun e => by have := h.no _ e; omega), (h.bel.trans (b1.mono h.bel.size)).trans (hk.below (by have := h.bel.size; simp; omega) (fun k hk' e => by have := h.no _ e; omega)), ?_, fun g hg => (hv g hg).elim (h.no g) (fun e => by omega)⟩
  rw [List.length_append]
  have e : svals (l ++ [nm]) = svals l ++ [.string nm] := by simp [svals]
  rw [e]; exact hs

set_option maxHeartbeats 4000000 in
set_option maxRecDepth 100000 in
theorem rheld_ok (s : KS) (vn vi va : Value) (w : World) (H : RX w s vn vi va) (ho : s.Ok) :
    Calls Try.prog 28 #[rv s vn vi va] w fun e w' => ∃ vo, e = .returned vo ∧ Sg w' 1 vo s.held.length (svals s.held) ∧ (∀ g, vblk vo = some g → w.heap.size ≤ g) ∧ Below w.heap.size w w' := by
  obtain ⟨i0, hi, hz0, hz1, hz2⟩ := info_parts strInfo
  have I := Lib.hid hi
  have I0 := Lib.hid hz0
  have I1 := Lib.hid hz1
  have I2 := Lib.hid hz2
  clear hi hz0 hz1 hz2
  obtain ⟨an, cn, rfl⟩ := H.names.shape
  obtain ⟨ai, ci, rfl⟩ := H.wants.shape
  obtain ⟨aa, ca, rfl⟩ := H.asked.shape
  have HX := Lib.hid H
  have HNW := Lib.hid ho.names
  obtain ⟨n, hn⟩ : ∃ n, n = s.names.length := ⟨_, rfl⟩
  have HN := Lib.hid hn
  have hfew : n ≤ 16 := by rw [hn]; exact ho.few
  have HH : Hid (s.held = s.heldN n) := Lib.hid (by rw [hn]; rfl)
  have R0 : Hid (RH w ((w.alloc (.cells (kcells s (.slice an n cn) (.slice ai n ci) (.slice aa s.asked.length ca)).toArray 31)).alloc (.cells #[] 9)) s (.slice an n cn) (.slice ai n ci) (.slice aa s.asked.length ca) (.slice (some ⟨w.heap.size + 1, 0, none⟩) 0 0) (s.heldN 0)) :=
    ⟨(Blk.new w _ _).alloc _, below2 _ _ _, sg_none _ _ _, fun g h => (vblk_none _ _ _ h).elim⟩
  have EW : s.wants.length = n := by rw [hn]; exact ho.names.symm
  unfold rv
  rw [← hn, EW]
  clear H ho hn EW
  go_enter Try.func28, Try.ntmps28
  go_upto_region 2 with fail
  refine wp_gen (fun wx => RH w wx s (.slice an n cn) (.slice ai n ci) (.slice aa s.asked.length ca) (.slice (some ⟨w.heap.size + 1, 0, none⟩) 0 0) (s.heldN 0)) R0.out ?_
  clear R0
  rintro w1 r1
  have c0 := r1.own.cell 0 _ rfl
  have R1 := Lib.hid r1
  clear r1
  go_wp2_with fail
  go_loopw [3, 10] (fun vo vi wr => ∃ i : Nat, vi = .int .i64 i ∧ i ≤ n ∧ Hid (RH w wr s (.slice an n cn) (.slice ai n ci) (.slice aa s.asked.length ca) vo (s.heldN i))) (fun _ vi _ => n - (intOf vi).toNat)
  case atStart => exact ⟨0, rfl, by omega, R1⟩
  case round =>
    clear R1 c0
    obtain ⟨i, rfl, hi, R⟩ := hrel
    by_cases hgo : i < n
    · have hn0 := HX.out.names.below R.out.bel
      rw [← HN.out] at hn0
      obtain ⟨gn, on, cn', hvn, hcn, hcn2, -, -, -, -⟩ := hn0.open (by omega)
      simp only [Value.slice.injEq, true_and] at hvn
      obtain ⟨rfl, rfl⟩ := hvn
      have cN := (hn0.cellAt i hgo).1.trans (svals_get _ _ (by rw [← HN.out]; exact hgo))
      have hw0 := HX.out.wants.below R.out.bel
      rw [← HNW.out, ← HN.out] at hw0
      obtain ⟨gw, ow, cw', hvw, hcw, hcw2, -, -, -, -⟩ := hw0.open (by omega)
      simp only [Value.slice.injEq, true_and] at hvw
      obtain ⟨rfl, rfl⟩ := hvw
      have cW := (hw0.cellAt i hgo).1.trans (nvals_get _ _ (by rw [← HNW.out, ← HN.out]; exact hgo))
      have c9 := R.out.own.cell 9 _ rfl
      obtain ⟨y, hy⟩ : ∃ y, y = s.wants.getD i 0 := ⟨_, rfl⟩
      obtain ⟨nm, hnm⟩ : ∃ nm, nm = s.names.getD i ⟨#[]⟩ := ⟨_, rfl⟩
      rw [← hy] at cW
      rw [← hnm] at cN
      have hl := heldN_len s i
      have hl1 : (s.heldN i).length + 1 ≤ maxLen := by unfold maxLen; omega
      have hl2 : ((s.heldN i).length + 1) * 16 ≤ 140737488355328 := by omega
      clear hn0 hw0 hcn hcw hcn2 hcw2 hl
      by_cases hy1 : y = 1
      · have e : s.heldN (i + 1) = s.heldN i ++ [nm] := by show (if s.wants.getD i 0 = 1 then _ else _) = _; rw [if_pos (by rw [← hy]; exact hy1), hnm]
        have E := Lib.hid e
        have HNM := Lib.hid hnm
        subst hy1
        clear hy e hnm
        have SO := Lib.hid (R.out.so.below (below1 wr (.cells #[.string nm] 9)))
        have SL := Lib.hid (lit_one wr 9 (.string nm))
        have oneS := svals_one [nm]
        go_wp2_with (at_builtin; refine wpList_append_any _ rfl (.tmp 21) (.tmp 23) 22 rfl 9 i0 (.string ⟨#[]⟩) 1 16 Try.underlying22 I.out I0.out I1.out I2.out rfl (by decide) _ _ _ rfl SO.out _ 1 _ rfl SL.out oneS hl1 hl2 ?grow)
        case grow =>
          intro vo2 w2 hs hv hk
          have R2 := Lib.hid (R.out.add _ nm hs hv hk)
          clear hs hv hk SO SL
          go_wp2_with fail
          go_roundw
          case rel => exact ⟨i + 1, by go_num, by omega, by rw [E.out]; exact R2⟩
          case measure => simp [intOf]; omega
      · have e : s.heldN (i + 1) = s.heldN i := by show (if s.wants.getD i 0 = 1 then _ else _) = _; rw [if_neg (by rw [← hy]; exact hy1)]
        have R2 := R
        rw [← e] at R2
        have hyb : ((y : Int) == 1) = false := by simp; omega
        have HY := Lib.hid hy
        have HNM := Lib.hid hnm
        clear e hy1 hy hnm
        go_wp2_with fail
        go_roundw
        case rel => exact ⟨i + 1, by go_num, by omega, R2⟩
        case measure => simp [intOf]; omega
    · obtain rfl : i = n := by omega
      go_wp2_with fail
      go_ret
      exact ⟨_, rfl, by rw [HH.out]; exact R.out.so, fun g hg => by have := R.out.no g hg; omega, R.out.bel⟩
end Go.Proofs.Ytaenfkekdhnakaa
