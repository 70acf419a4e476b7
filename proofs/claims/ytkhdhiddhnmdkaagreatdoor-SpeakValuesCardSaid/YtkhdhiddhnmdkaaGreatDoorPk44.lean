/-
The document's Count and Write.
-/
import Derived.Test.YtkhdhiddhnmdkaaGreatDoorPk43
namespace Go.Proofs.YtkhdhiddhnmdkaaGreatDoor
open Go.RowKit Tm
set_option maxRecDepth 100000
namespace Tv
def kwl (i : Nat) : List S := if i = 0 then kw1 else kw2
theorem cnt_of0 {k : S} (h : k ∈ kw1) : cnt k = 1 := cnt1 h
theorem cnt_no {k : S} (h1 : ∀ m, m ∈ kw1 → m ≠ k) (h2 : ∀ m, m ∈ kw2 → m ≠ k) : cnt k = 0 := by
  unfold cnt
  rw [if_neg (fun h => h1 k h rfl), if_neg (fun h => h2 k h rfl)]
theorem str_eq (a b : S) : ((by8 a).toList == (by8 b).toList) = decide (a = b) := by
  rw [ByteArray.toList_eq, ByteArray.toList_eq]
  show (a == b) = _
  by_cases h : a = b
  · subst h; simp
  · rw [beq_eq_false_iff_ne.2 h, decide_eq_false h]
set_option maxHeartbeats 8000000 in
theorem refCount_ok (k : S) (w : World) : Calls Tryz.prog 15 #[.string (by8 k)] w fun e w' => e = .returned (.int .i64 (cnt k : Nat)) ∧ Below w.heap.size w w' := by
  go_enter Tryz.func15, Tryz.ntmps15
  go_upto_region 2 with fail
  have B1 : Blk (w.alloc (.cells (sv kw1).toArray 9)) w.heap.size 9 (sv kw1) := Blk.new w _ _
  have B2 : Blk ((w.alloc (.cells (sv kw1).toArray 9)).alloc (.cells (sv kw2).toArray 9)) (w.heap.size + 1) 9 (sv kw2) := Blk.new2 _ _ _ _
  have B3 : Blk (((w.alloc (.cells (sv kw1).toArray 9)).alloc (.cells (sv kw2).toArray 9)).alloc (.cells #[.slice (some ⟨w.heap.size, 0, none⟩) 3 3, .slice (some ⟨w.heap.size + 1, 0, none⟩) 4 4] 34)) (w.heap.size + 2) 34 [.slice (some ⟨w.heap.size, 0, none⟩) 3 3, .slice (some ⟨w.heap.size + 1, 0, none⟩) 4 4] := Blk.new3 _ _ _ _ _
  refine wp_gen (fun wx => Blk wx w.heap.size 9 (sv kw1) ∧ Blk wx (w.heap.size + 1) 9 (sv kw2) ∧ Blk wx (w.heap.size + 2) 34 [.slice (some ⟨w.heap.size, 0, none⟩) 3 3, .slice (some ⟨w.heap.size + 1, 0, none⟩) 4 4] ∧ Below w.heap.size w wx) ⟨(B1.alloc _).alloc _, B2.alloc _, B3, below3 _ _ _ _⟩ ?_
  clear B1 B2 B3
  rintro wx ⟨B1, B2, B3, BW⟩
  have HB := Lib.hid (And.intro B1 (And.intro B2 (And.intro B3 BW)))
  clear B1 B2 B3 BW
  go_loopw [11] (fun v11 wr => ∃ i : Nat, v11 = .int .i64 i ∧ i ≤ 2 ∧ wr = wx ∧ Hid ((1 ≤ i → ∀ m, m ∈ kw1 → m ≠ k) ∧ (2 ≤ i → ∀ m, m ∈ kw2 → m ≠ k))) (fun v11 _ => 3 - (intOf v11).toNat)
  case atStart => exact ⟨0, rfl, by omega, rfl, Lib.hid ⟨fun h => by omega, fun h => by omega⟩⟩
  case round =>
    obtain ⟨i, rfl, hi, rfl, hno⟩ := hrel
    by_cases hgo : i < 2
    · obtain ⟨bi, hbi⟩ : ∃ bi, bi = w.heap.size + i := ⟨_, rfl⟩
      have hpk : Hid (Blk wr bi 9 (sv (kwl i))) := by
        rcases (show i = 0 ∨ i = 1 by omega) with rfl | rfl
        · rw [hbi]; exact HB.out.1
        · rw [hbi]; exact HB.out.2.1
      have hcell : wr.cell? ⟨w.heap.size + 2, i, none⟩ = some (.slice (some ⟨bi, 0, none⟩) (kwl i).length (kwl i).length) := by
        rcases (show i = 0 ∨ i = 1 by omega) with rfl | rfl
        · rw [hbi]; exact HB.out.2.2.1.cell 0 _ rfl
        · rw [hbi]; exact HB.out.2.2.1.cell 1 _ rfl
      have hkl : (kwl i).length ≤ 4 := by
        rcases (show i = 0 ∨ i = 1 by omega) with rfl | rfl <;> decide
      have HKL := Lib.hid (show kwl i = if i = 0 then kw1 else kw2 from rfl)
      generalize kwl i = L at *
      go_upto_region 5 with fail
      go_loopw [18] (fun v18 wr' => ∃ j : Nat, v18 = .int .i64 j ∧ j ≤ L.length ∧ wr' = wr ∧ Hid (∀ m, m < j → L[m]? ≠ some k)) (fun v18 _ => 10 - (intOf v18).toNat)
      case atStart => exact ⟨0, rfl, by omega, rfl, Lib.hid (fun m h => by omega)⟩
      case round =>
        obtain ⟨j, rfl, hj, rfl, hnj⟩ := hrel
        by_cases hjl : j < L.length
        · have hx := List.getElem?_eq_getElem hjl
          have hc : wr.cell? ⟨w.heap.size + i, j, none⟩ = some (.string (by8 L[j])) := by
            rw [← hbi]
            refine hpk.out.cell j _ ?_
            unfold sv
            rw [List.getElem?_map, hx]
            rfl
          have HX := Lib.hid hx
          clear hx
          generalize L[j] = x at *
          by_cases hxk : x = k
          · have EQ : ((by8 x).toList == (by8 k).toList) = true := by rw [str_eq]; exact decide_eq_true hxk
            have HM : Hid (k ∈ L) := by show k ∈ L; rw [← hxk]; exact List.mem_of_getElem? HX.out
            clear hxk
            have HC : Hid (cnt k = i + 1) := by
              show _ = _
              have hm := HM.out
              rw [HKL.out] at hm
              rcases (show i = 0 ∨ i = 1 by omega) with rfl | rfl
              · exact cnt1 hm
              · exact cnt2 hm
            go_wp2_with fail
            go_ret
            refine ⟨?_, HB.out.2.2.2⟩
            rw [HC.out]
            rfl
          · have EQ : ((by8 x).toList == (by8 k).toList) = false := by rw [str_eq]; exact decide_eq_false hxk
            have HN : Hid (∀ m, m < j + 1 → L[m]? ≠ some k) := fun m hm => by
              rcases (show m < j ∨ m = j by omega) with h | rfl
              · exact hnj.out m h
              · rw [HX.out]
                exact fun e => hxk (Option.some.inj e)
            clear hxk
            go_wp2_with fail
            go_roundw
            case rel => exact ⟨j + 1, by go_num, by omega, trivial, HN⟩
            case measure => simp [intOf]; omega
        · have HN : Hid (∀ m, m ∈ L → m ≠ k) := fun m hm e => by
            obtain ⟨q, hq, e2⟩ := List.getElem_of_mem hm
            refine hnj.out q (by omega) ?_
            rw [List.getElem?_eq_getElem hq, e2, e]
          have HNN : Hid ((1 ≤ i + 1 → ∀ m, m ∈ kw1 → m ≠ k) ∧ (2 ≤ i + 1 → ∀ m, m ∈ kw2 → m ≠ k)) := by
            have h := HN.out
            rw [HKL.out] at h
            rcases (show i = 0 ∨ i = 1 by omega) with rfl | rfl
            · exact ⟨fun _ => h, fun h2 => by omega⟩
            · exact ⟨fun _ => hno.out.1 (by omega), fun _ => h⟩
          go_wp2_with fail
          go_roundw
          case rel => exact ⟨i + 1, by go_num, by omega, trivial, HNN⟩
          case measure => simp [intOf]; omega
    · have HC : Hid (cnt k = 0) := cnt_no (hno.out.1 (by omega)) (hno.out.2 (by omega))
      go_wp2_with fail
      go_ret
      refine ⟨?_, HB.out.2.2.2⟩
      rw [HC.out]
      rfl
theorem SL.cell {wc w : World} {v : Value} {l : List S} (h : SL wc w v l) (hn : 0 < l.length) : ∃ g off cap, v = .slice (some ⟨g, off, none⟩) l.length cap ∧ l.length ≤ cap ∧ vblk v = some g ∧ g < w.heap.size ∧ ∀ i x, l[i]? = some x → w.cell? ⟨g, off + i, none⟩ = some (.string (by8 x)) := by
  obtain ⟨g, off, cap, rfl, h1, _, h3, h4, hc, _⟩ := h.sg.open hn
  refine ⟨g, off, cap, rfl, h1, h3, h4, fun i x hx => ?_⟩
  have hi : i < l.length := (List.getElem?_eq_some_iff.1 hx).1
  rw [(hc i (by omega)).1]
  unfold sv
  rw [List.getElem?_map, hx]
  rfl
def swapped (k : S) (l : List S) : Bool := match l with
  | [a, b] => decide (k = kShare) && lt b a
  | _ => false
theorem write_is (k : S) (l : List S) (hl : l.length = 1 ∨ l.length = 2) : Tm.write lt k l = wt k (if swapped k l then l.reverse else l) := by
  match l, hl with
  | [a], _ => simp [Tm.write, wt, swapped, Tm.join]
  | [a, b], _ =>
    show (if k = kShare ∧ lt b a = true then _ else _) = wt k (if (decide (k = kShare) && lt b a) = true then _ else _)
    by_cases h : k = kShare ∧ lt b a = true
    · rw [if_pos h, if_pos (by rw [decide_eq_true h.1, h.2]; rfl)]
      simp [wt, Tm.join]
    · rw [if_neg h, if_neg (by
        intro hb
        rw [Bool.and_eq_true, decide_eq_true_eq] at hb
        exact h hb)]
      simp [wt, Tm.join]
theorem take1 {l : List S} (h : 0 < l.length) : l.take 1 = [l[0]] := by
  rw [List.take_add_one, List.getElem?_eq_getElem h]
  rfl
theorem take2 {l : List S} (h0 : 0 < l.length) (h : 1 < l.length) : l.take (1 + 1) = [l[0], l[1]] := by
  rw [List.take_add_one, List.getElem?_eq_getElem h, take1 h0]
  rfl
/-- what has been written of the parts -/
def partsL (k : S) (l : List S) (i : Nat) : S := k ++ 40 :: Tm.join (l.take i)
set_option maxHeartbeats 8000000 in
theorem write_ok (k : S) (l : List S) (v : Value) (wc w : World) (hL : SL wc w v l) (hl : l.length = 1 ∨ l.length = 2) (hk : k = kShare → l.length = 2) (hk1 : k.length ≤ 1000) (hlt : ∀ x ∈ l, x.length ≤ 1000) :
    Calls Tryz.prog 16 #[.string (by8 k), v] w fun e w' => e = .returned (.string (by8 (Tm.write lt k l))) ∧ Below w.heap.size w w' := by
  have hn : 0 < l.length := by omega
  rw [write_is k l hl]
  obtain ⟨WL, hWL⟩ : ∃ WL, WL = wt k (if swapped k l then l.reverse else l) := ⟨_, rfl⟩
  rw [← hWL]
  have HWL := Lib.hid hWL
  clear hWL
  obtain ⟨g, off, cap, rfl, hcap, hvb, hgl, hcell⟩ := hL.cell hn
  have hks : (by8 k).size = k.length := by8_size k
  have D0 : Below w.heap.size w w.drew := below_drewN (Below.refl _ _) 1
  have cellD : ∀ w', Below w.drew.heap.size w.drew w' → ∀ i x, l[i]? = some x → w'.cell? ⟨g, off + i, none⟩ = some (.string (by8 x)) := fun w' hb i x hx => by
    rw [(D0.trans (hb.mono D0.size)).cell (p := ⟨g, off + i, none⟩) hgl]
    exact hcell i x hx
  go_enter Tryz.func16, Tryz.ntmps16
  go_upto_region 1 with fail
  go_cut [18] (fun v18 wx => v18 = .bool (swapped k l) ∧ Rw w wx)
  case first =>
    have Dr : Below w.heap.size w w.drew := below_drewN (Below.refl _ _) 1
    by_cases hks' : k = kShare
    · match l, hl, hk hks', hcell, cellD with
      | [a, b], _, _, hcell, cellD =>
        have EQ : ((by8 k).toList == [115, 104, 97, 114, 101]) = true := beq_l true (by simp [show k = [115, 104, 97, 114, 101] from hks'])
        have HT : Hid (swapped k [a, b] = lt b a) := by show (decide (k = kShare) && _) = _; rw [decide_eq_true hks', Bool.true_and]
        clear hks' hk
        have EL : Op.bytesLess (by8 b).toList (by8 a).toList = lt b a := by rw [ByteArray.toList_eq, ByteArray.toList_eq]; rfl
        have ca : ∀ w', Below w.drew.heap.size w.drew w' → w'.cell? ⟨g, off, none⟩ = some (.string (by8 a)) := fun w' hb => cellD w' hb 0 a rfl
        have cb : ∀ w', Below w.drew.heap.size w.drew w' → w'.cell? ⟨g, off + 1, none⟩ = some (.string (by8 b)) := fun w' hb => cellD w' hb 1 b rfl
        clear hcell cellD
        refine region_quiet (C := fun w' => Below w.drew.heap.size w.drew w') (by kernel_rfl) (by kernel_rfl) (Below.refl _ _) ?_
        ((with_reducible refine wpQuiet_step (fun K hK => ?_)); refine quiet_plainG (.string (by8 k)) (by first | rfl | simp [Region.wanted, yielded]) (fun w' hw' => by go_simp) ?_; go_simp; (with_reducible apply hK); clear hK K)
        ((with_reducible refine wpQuiet_step (fun K hK => ?_)); refine quiet_plainG (.bool true) (by first | rfl | simp [Region.wanted, yielded]) (fun w' hw' => by go_simp) ?_; go_simp; (with_reducible apply hK); clear hK K)
        ((with_reducible refine wpQuiet_step (fun K hK => ?_)); refine quiet_plainG (.bool true) (by first | rfl | simp [Region.wanted, yielded]) (fun w' hw' => by go_simp) ?_; go_simp; (with_reducible apply hK); clear hK K)
        ((with_reducible refine wpQuiet_step (fun K hK => ?_)); refine quiet_plainG (.slice (some ⟨g, off, none⟩) 2 cap) (by first | rfl | simp [Region.wanted, yielded]) (fun w' hw' => by go_simp) ?_; go_simp; (with_reducible apply hK); clear hK K)
        ((with_reducible refine wpQuiet_step (fun K hK => ?_)); refine quiet_plainG (.pointer (some ⟨g, off + 1, none⟩)) (by first | rfl | simp [Region.wanted, yielded]) (fun w' hw' => by go_simp) ?_; go_simp; (with_reducible apply hK); clear hK K)
        ((with_reducible refine wpQuiet_step (fun K hK => ?_)); refine quiet_plainG (.string (by8 b)) (by first | rfl | simp [Region.wanted, yielded]) (fun w' hw' => by have h := cb w' hw'; go_simp; try simp [h]) ?_; go_simp; (with_reducible apply hK); clear hK K)
        ((with_reducible refine wpQuiet_step (fun K hK => ?_)); refine quiet_plainG (.slice (some ⟨g, off, none⟩) 2 cap) (by first | rfl | simp [Region.wanted, yielded]) (fun w' hw' => by go_simp) ?_; go_simp; (with_reducible apply hK); clear hK K)
        ((with_reducible refine wpQuiet_step (fun K hK => ?_)); refine quiet_plainG (.pointer (some ⟨g, off, none⟩)) (by first | rfl | simp [Region.wanted, yielded]) (fun w' hw' => by go_simp) ?_; go_simp; (with_reducible apply hK); clear hK K)
        ((with_reducible refine wpQuiet_step (fun K hK => ?_)); refine quiet_plainG (.string (by8 a)) (by first | rfl | simp [Region.wanted, yielded]) (fun w' hw' => by have h := ca w' hw'; go_simp; try simp [h]) ?_; go_simp; (with_reducible apply hK); clear hK K)
        ((with_reducible refine wpQuiet_step (fun K hK => ?_)); refine quiet_plainG (.bool (lt b a)) (by first | rfl | simp [Region.wanted, yielded]) (fun w' hw' => by go_simp) ?_; go_simp; (with_reducible apply hK); clear hK K)
        ((with_reducible refine wpQuiet_step (fun K hK => ?_)); refine quiet_plainG (.bool (lt b a)) (by first | rfl | simp [Region.wanted, yielded]) (fun w' hw' => by go_simp) ?_; go_simp; (with_reducible apply hK); clear hK K)
        refine wpQuiet_nil ?_
        intro w5 hw5
        go_wp2_with fail
        go_meet
        rw [HT.out]
        exact ⟨rfl, Dr.trans (hw5.mono Dr.size)⟩
    · have EQ : ((by8 k).toList == [115, 104, 97, 114, 101]) = false := beq_l false (by simp [show k ≠ [115, 104, 97, 114, 101] from hks'])
      have HT : Hid (swapped k l = false) := by show _ = _; unfold swapped; split <;> simp [hks']
      clear hks' hk
      refine region_quiet (C := fun w' => Below w.drew.heap.size w.drew w') (by kernel_rfl) (by kernel_rfl) (Below.refl _ _) ?_
      ((with_reducible refine wpQuiet_step (fun K hK => ?_)); refine quiet_plainG (.string (by8 k)) (by first | rfl | simp [Region.wanted, yielded]) (fun w' hw' => by go_simp) ?_; go_simp; (with_reducible apply hK); clear hK K)
      ((with_reducible refine wpQuiet_step (fun K hK => ?_)); refine quiet_plainG (.bool false) (by first | rfl | simp [Region.wanted, yielded]) (fun w' hw' => by go_simp) ?_; go_simp; (with_reducible apply hK); clear hK K)
      ((with_reducible refine wpQuiet_step (fun K hK => ?_)); refine quiet_plainG (.bool false) (by first | rfl | simp [Region.wanted, yielded]) (fun w' hw' => by go_simp) ?_; go_simp; (with_reducible apply hK); clear hK K)
      ((with_reducible refine wpQuiet_step (fun K hK => ?_)); refine quiet_skip (by first | rfl | simp [Region.wanted, yielded]) ?_; go_simp; (with_reducible apply hK); clear hK K)
      ((with_reducible refine wpQuiet_step (fun K hK => ?_)); refine quiet_skip (by first | rfl | simp [Region.wanted, yielded]) ?_; go_simp; (with_reducible apply hK); clear hK K)
      ((with_reducible refine wpQuiet_step (fun K hK => ?_)); refine quiet_skip (by first | rfl | simp [Region.wanted, yielded]) ?_; go_simp; (with_reducible apply hK); clear hK K)
      ((with_reducible refine wpQuiet_step (fun K hK => ?_)); refine quiet_skip (by first | rfl | simp [Region.wanted, yielded]) ?_; go_simp; (with_reducible apply hK); clear hK K)
      ((with_reducible refine wpQuiet_step (fun K hK => ?_)); refine quiet_skip (by first | rfl | simp [Region.wanted, yielded]) ?_; go_simp; (with_reducible apply hK); clear hK K)
      ((with_reducible refine wpQuiet_step (fun K hK => ?_)); refine quiet_skip (by first | rfl | simp [Region.wanted, yielded]) ?_; go_simp; (with_reducible apply hK); clear hK K)
      ((with_reducible refine wpQuiet_step (fun K hK => ?_)); refine quiet_skip (by first | rfl | simp [Region.wanted, yielded]) ?_; go_simp; (with_reducible apply hK); clear hK K)
      ((with_reducible refine wpQuiet_step (fun K hK => ?_)); refine quiet_plainG (.bool false) (by first | rfl | simp [Region.wanted, yielded]) (fun w' hw' => by go_simp) ?_; go_simp; (with_reducible apply hK); clear hK K)
      refine wpQuiet_nil ?_
      intro w5 hw5
      go_wp2_with fail
      go_meet
      rw [HT.out]
      exact ⟨rfl, Dr.trans (hw5.mono Dr.size)⟩
  case rest =>
  obtain ⟨rfl, hb⟩ := hcut
  have BW : Below w.heap.size w wc := hb
  replace hcell : ∀ w', Below wc.heap.size wc w' → ∀ i x, l[i]? = some x → w'.cell? ⟨g, off + i, none⟩ = some (.string (by8 x)) := fun w' hb' i x hx => by
    rw [(BW.trans (hb'.mono BW.size)).cell (p := ⟨g, off + i, none⟩) hgl]
    exact hcell i x hx
  clear hb cellD D0 hL
  cases hsw : swapped k l
  · have HW2 : Hid (WL = wt k l) := by
      show _ = _
      rw [HWL.out, hsw]
      rfl
    have hn2 : l.length ≤ 2 := by omega
    have HLT := Lib.hid hlt
    have HBW := Lib.hid BW
    have HCELL := Lib.hid (fun i x hx => hcell wc (Below.refl _ _) i x hx)
    clear hcell hsw hl hk hlt BW
    go_upto_region 5 with fail
    go_loopw [5, 35] (fun v5 v35 wr => ∃ i : Nat, v35 = .int .i64 i ∧ i ≤ l.length ∧ v5 = .string (by8 (partsL k l i)) ∧ wr = wc) (fun _ v35 _ => 5 - (intOf v35).toNat)
    case atStart => exact ⟨0, rfl, by omega, by
      show Value.string (by8 k ++ ⟨#[40]⟩) = .string (by8 (k ++ 40 :: Tm.join (l.take 0)))
      rw [show (⟨#[40]⟩ : ByteArray) = by8 [40] from rfl, by8_app]
      rfl, rfl⟩
    case round =>
      obtain ⟨i, rfl, hi, rfl, rfl⟩ := hrel
      by_cases hgo : i < l.length
      · have hx := List.getElem?_eq_getElem hgo
        have hc := HCELL.out i _ hx
        have hxl := HLT.out _ (List.mem_of_getElem? hx)
        have hxs : (by8 l[i]).size = l[i].length := by8_size _
        have hps : (by8 (partsL k l i)).size = (partsL k l i).length := by8_size _
        rcases (show i = 0 ∨ i = 1 by omega) with hi0 | hi1
        · have HP : Hid (by8 (partsL k l i) ++ by8 l[i] = by8 (partsL k l (i + 1))) := by
            show _ = _
            subst hi0
            rw [by8_app]
            unfold partsL
            rw [List.take_add_one, hx]
            simp [Tm.join]
          have hpl : (partsL k l i).length = k.length + 1 := by subst hi0; simp [partsL, Tm.join]
          have hz : ((0 : Int) < (i : Int)) = False := eq_false (by omega)
          have hz2 : (0 < i) = False := eq_false (by omega)
          clear hx hi0
          generalize l[i] = x at *
          generalize partsL k l i = PL at *
          go_wp2_with fail
          go_roundw
          case rel => exact ⟨i + 1, by go_num, by omega, by rw [HP.out], trivial⟩
          case measure => simp [intOf]; omega
        · have h0 : 0 < l.length := by omega
          have HP : Hid (by8 (partsL k l i) ++ ⟨#[44]⟩ ++ by8 l[i] = by8 (partsL k l (i + 1))) := by
            show _ = _
            subst hi1
            rw [show (⟨#[44]⟩ : ByteArray) = by8 [44] from rfl, by8_app, by8_app]
            unfold partsL
            rw [take1 h0, take2 h0 hgo]
            simp [Tm.join]
          have hpl : (partsL k l i).length ≤ k.length + 1 + 1000 := by
            subst hi1
            have := HLT.out _ (List.mem_of_getElem? (List.getElem?_eq_getElem h0))
            unfold partsL
            rw [take1 h0]
            simp [Tm.join]
            omega
          have hz : (0 : Int) < (i : Int) := by omega
          have hz2 : 0 < i := by omega
          clear hx hi1
          generalize l[i] = x at *
          generalize partsL k l i = PL at *
          go_wp2_with fail
          go_roundw
          case rel => exact ⟨i + 1, by go_num, by omega, by rw [HP.out], trivial⟩
          case measure => simp [intOf]; omega
      · obtain rfl : i = l.length := by omega
        have HE : Hid (by8 (partsL k l l.length) ++ ⟨#[41]⟩ = by8 WL) := by
          show _ = _
          rw [HW2.out, show (⟨#[41]⟩ : ByteArray) = by8 [41] from rfl, by8_app]
          unfold partsL wt
          rw [List.take_length]
          simp
        have hps : (by8 (partsL k l l.length)).size = (partsL k l l.length).length := by8_size _
        have hpl : (partsL k l l.length).length ≤ k.length + 1 + 2001 := by
          have hl12 : l.length = 1 ∨ l.length = 2 := by omega
          unfold partsL
          rw [List.take_length]
          have hm := HLT.out
          match l, hl12, hm with
          | [a], _, hm => have := hm a (by simp); simp [Tm.join]; omega
          | [a, b], _, hm => have := hm a (by simp); have := hm b (by simp); simp [Tm.join]; omega
        generalize partsL k l l.length = PL at *
        go_wp2_with fail
        go_ret
        refine ⟨?_, HBW.out⟩
        show Ending.returned (.string (by8 PL ++ ⟨#[41]⟩)) = _
        rw [HE.out]
  · have hl2 : l.length = 2 := by
      unfold swapped at hsw
      split at hsw
      · rfl
      · cases hsw
    obtain ⟨a, b, hab⟩ : ∃ a b, l = [a, b] := by
      match l, hl2 with
      | [a, b], _ => exact ⟨a, b, rfl⟩
    have HAB := Lib.hid hab
    have l0 : l[0]? = some a := by rw [hab]; rfl
    have l1 : l[1]? = some b := by rw [hab]; rfl
    have la := hlt a (by rw [hab]; simp)
    have lb := hlt b (by rw [hab]; simp)
    clear hab
    have Dr : Below wc.heap.size wc wc.drew := below_drewN (Below.refl _ _) 1
    have ca : ∀ w', Below wc.drew.heap.size wc.drew w' → w'.cell? ⟨g, off, none⟩ = some (.string (by8 a)) := fun w' hb => hcell w' (Dr.trans (hb.mono Dr.size)) 0 a l0
    have cb : ∀ w', Below wc.drew.heap.size wc.drew w' → w'.cell? ⟨g, off + 1, none⟩ = some (.string (by8 b)) := fun w' hb => hcell w' (Dr.trans (hb.mono Dr.size)) 1 b l1
    have sa : (by8 a).size = a.length := by8_size a
    have sb : (by8 b).size = b.length := by8_size b
    have WT : Hid (by8 k ++ ⟨#[40]⟩ ++ by8 b ++ ⟨#[44]⟩ ++ by8 a ++ ⟨#[41]⟩ = by8 (wt k [b, a])) := by
      show _ = _
      rw [show (⟨#[40]⟩ : ByteArray) = by8 [40] from rfl, show (⟨#[41]⟩ : ByteArray) = by8 [41] from rfl, show (⟨#[44]⟩ : ByteArray) = by8 [44] from rfl, by8_app, by8_app, by8_app, by8_app, by8_app]
      unfold wt Tm.join
      simp [Tm.join]
    have HW2 : Hid (WL = wt k [b, a]) := by
      show _ = _
      rw [HWL.out, hsw, HAB.out]
      rfl
    clear hcell hlt hsw l0 l1 hl hk hn hcap hvb
    go_upto_region 2 with fail
    refine region_quiet (C := fun w' => Below wc.drew.heap.size wc.drew w') (by kernel_rfl) (by kernel_rfl) (Below.refl _ _) ?_
    ((with_reducible refine wpQuiet_step (fun K hK => ?_)); refine quiet_plainG (.string (by8 k)) (by first | rfl | simp [Region.wanted, yielded]) (fun w' hw' => by go_simp) ?_; go_simp; (with_reducible apply hK); clear hK K)
    ((with_reducible refine wpQuiet_step (fun K hK => ?_)); refine quiet_plainG (.string (by8 k ++ ⟨#[40]⟩)) (by first | rfl | simp [Region.wanted, yielded]) (fun w' hw' => by go_simp; try omega) ?_; go_simp; (with_reducible apply hK); clear hK K)
    ((with_reducible refine wpQuiet_step (fun K hK => ?_)); refine quiet_plainG (.slice (some ⟨g, off, none⟩) 2 cap) (by first | rfl | simp [Region.wanted, yielded]) (fun w' hw' => by go_simp) ?_; go_simp; (with_reducible apply hK); clear hK K)
    ((with_reducible refine wpQuiet_step (fun K hK => ?_)); refine quiet_plainG (.pointer (some ⟨g, off + 1, none⟩)) (by first | rfl | simp [Region.wanted, yielded]) (fun w' hw' => by go_simp) ?_; go_simp; (with_reducible apply hK); clear hK K)
    ((with_reducible refine wpQuiet_step (fun K hK => ?_)); refine quiet_plainG (.string (by8 b)) (by first | rfl | simp [Region.wanted, yielded]) (fun w' hw' => by have h := cb w' hw'; go_simp; try simp [h]) ?_; go_simp; (with_reducible apply hK); clear hK K)
    ((with_reducible refine wpQuiet_step (fun K hK => ?_)); refine quiet_plainG (.string (by8 k ++ ⟨#[40]⟩ ++ by8 b)) (by first | rfl | simp [Region.wanted, yielded]) (fun w' hw' => by go_simp; try omega) ?_; go_simp; (with_reducible apply hK); clear hK K)
    ((with_reducible refine wpQuiet_step (fun K hK => ?_)); refine quiet_plainG (.string (by8 k ++ ⟨#[40]⟩ ++ by8 b ++ ⟨#[44]⟩)) (by first | rfl | simp [Region.wanted, yielded]) (fun w' hw' => by go_simp; try omega) ?_; go_simp; (with_reducible apply hK); clear hK K)
    ((with_reducible refine wpQuiet_step (fun K hK => ?_)); refine quiet_plainG (.slice (some ⟨g, off, none⟩) 2 cap) (by first | rfl | simp [Region.wanted, yielded]) (fun w' hw' => by go_simp) ?_; go_simp; (with_reducible apply hK); clear hK K)
    ((with_reducible refine wpQuiet_step (fun K hK => ?_)); refine quiet_plainG (.pointer (some ⟨g, off, none⟩)) (by first | rfl | simp [Region.wanted, yielded]) (fun w' hw' => by go_simp) ?_; go_simp; (with_reducible apply hK); clear hK K)
    ((with_reducible refine wpQuiet_step (fun K hK => ?_)); refine quiet_plainG (.string (by8 a)) (by first | rfl | simp [Region.wanted, yielded]) (fun w' hw' => by have h := ca w' hw'; go_simp; try simp [h]) ?_; go_simp; (with_reducible apply hK); clear hK K)
    ((with_reducible refine wpQuiet_step (fun K hK => ?_)); refine quiet_plainG (.string (by8 k ++ ⟨#[40]⟩ ++ by8 b ++ ⟨#[44]⟩ ++ by8 a)) (by first | rfl | simp [Region.wanted, yielded]) (fun w' hw' => by go_simp; try omega) ?_; go_simp; (with_reducible apply hK); clear hK K)
    ((with_reducible refine wpQuiet_step (fun K hK => ?_)); refine quiet_plainG (.string (by8 k ++ ⟨#[40]⟩ ++ by8 b ++ ⟨#[44]⟩ ++ by8 a ++ ⟨#[41]⟩)) (by first | rfl | simp [Region.wanted, yielded]) (fun w' hw' => by go_simp; try omega) ?_; go_simp; (with_reducible apply hK); clear hK K)
    ((with_reducible refine wpQuiet_step (fun K hK => ?_)); refine quiet_plainG (.string (by8 k ++ ⟨#[40]⟩ ++ by8 b ++ ⟨#[44]⟩ ++ by8 a ++ ⟨#[41]⟩)) (by first | rfl | simp [Region.wanted, yielded]) (fun w' hw' => by go_simp; try omega) ?_; go_simp; (with_reducible apply hK); clear hK K)
    refine wpQuiet_nil ?_
    intro w5 hw5
    have BZ := BW.trans ((Dr.trans (hw5.mono Dr.size)).mono BW.size)
    go_wp2_with fail
    go_ret
    refine ⟨?_, BZ⟩
    show Ending.returned (.string (by8 k ++ ⟨#[40]⟩ ++ by8 b ++ ⟨#[44]⟩ ++ by8 a ++ ⟨#[41]⟩)) = _
    rw [WT.out, HW2.out]
end Tv
end Go.Proofs.YtkhdhiddhnmdkaaGreatDoor
