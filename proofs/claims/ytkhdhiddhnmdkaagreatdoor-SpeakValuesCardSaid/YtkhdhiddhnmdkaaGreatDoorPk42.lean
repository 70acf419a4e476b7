/-
term: build.
-/
import Derived.Test.YtkhdhiddhnmdkaaGreatDoorPk41
import Derived.Test.YtkhdhiddhnmdkaaGreatDoorPk06
namespace Go.Proofs.YtkhdhiddhnmdkaaGreatDoor
open Go.RowKit Tm
set_option maxRecDepth 100000
namespace Tv
def lt (a b : S) : Bool := Op.bytesLess a b
def zT : List Value := [.string ⟨#[]⟩, .string ⟨#[]⟩, .slice none 0 0]
def txs (l : List Row) : List S := l.map (·.2.1)
def sv (l : List S) : List Value := l.map fun x => Value.string (by8 x)
theorem sv_len (l : List S) : (sv l).length = l.length := by simp [sv]
theorem sv_one (l : List S) : ∀ y ∈ sv l, y.oneCell' = true := by
  intro y hy
  obtain ⟨d, _, rfl⟩ := List.mem_map.1 hy
  rfl
theorem strInfo : (Tryz.prog.info? 9).map (fun i => (i.zero, i.size, i.bytes)) = some (some (.string ⟨#[]⟩), 1, 16) := by kernel_rfl
/-- the term as it is written -/
def wt (k : S) (ts : List S) : S := k ++ 40 :: (Tm.join ts ++ [41])
def turned (k : S) (l : List Row) : Bool := match l with
  | [x, y] => decide (k = kShare) && lt y.2.1 x.2.1
  | _ => false
def bl (k : S) (l : List Row) : List Row := if turned k l then l.reverse else l
theorem bl_len (k : S) (l : List Row) : (bl k l).length = l.length := by unfold bl; split <;> simp
theorem join_is (l : List S) (h : l.length = 1 ∨ l.length = 2) : Lib.join l [44] = Tm.join l := by
  match l, h with
  | [a], _ => simp [Lib.join, Tm.join]
  | [a, b], _ => simp [Lib.join, Tm.join]
theorem sv_take (l : List S) (i : Nat) (h : i < l.length) : sv (l.take i) ++ [.string (by8 l[i])] = sv (l.take (i + 1)) := by
  unfold sv
  rw [List.take_add_one, List.map_append, List.getElem?_eq_getElem h]
  rfl
theorem quiet_skip {ops : Array Oper} {C : World → Prop} {a : Act} {o : Oper} {K : Act → Prop} (hg : Region.wanted o (yielded ops a.tmps) = false) (h : K (a.put o.dst undef)) :
    if Region.wanted o (yielded ops a.tmps) then o.quiet Tryz.prog a C K else K (a.put o.dst undef) := by
  rw [if_neg (by rw [hg]; decide)]
  exact h
theorem PT.row {w : World} {v : Value} {l : List Row} {b : Nat} (h : PT w v l) (hne : ∀ g, vblk v = some g → g ≠ b) (r : Array Value) : PT (w.setRow b r) v l :=
  ⟨h.sg.same (by simp) (fun g hg => setRow_other _ _ _ _ (hne g hg)), h.sl⟩
set_option maxHeartbeats 8000000 in
theorem build_ok (k : S) (v : Value) (l : List Row) (w : World) (hp : PT w v l) (hn : l.length = 1 ∨ l.length = 2) (hk : k = kShare → l.length = 2) (hkl : k.length ≤ 1000) (hjl : (Tm.join (txs (bl k l))).length ≤ 100000) :
    Calls Tryz.prog 29 #[.string (by8 k), v] w fun e w' => ∃ v', e = .returned (tmv k (wt k (txs (bl k l))) v') ∧ PT w' v' (bl k l) ∧ (∀ g, vblk v' = some g → w.heap.size ≤ g) ∧ Below w.heap.size w w' := by
  have hpos : 0 < l.length := by omega
  go_enter Tryz.func29, Tryz.ntmps29
  go_upto_region 1 with fail
  refine wp_gen (fun wx => Blk wx w.heap.size tT zT ∧ Below w.heap.size w wx) ⟨Blk.new w _ zT, below1 _ _⟩ ?_
  rintro w1 ⟨O4, BW⟩
  have hp1 := hp.below BW
  have h41 := O4.lt
  go_upto_region 2 with (go_at_call 17; refine (clone_ok v l w1 hp1 hpos (by omega)).mono ?_; rintro e w2 ⟨v2, rfl, hp2, hv2, hb⟩)
  replace O4 := O4.below hb O4.lt
  have hv2' : ∀ g, vblk v2 = some g → w.heap.size < g := fun g hg => Nat.lt_of_lt_of_le h41 (hv2 g hg)
  replace BW := BW.trans (hb.mono BW.size)
  clear hb hp1 hv2
  obtain ⟨g, off, cap, rfl, hnc, hcm, hvb, hgl, _, _⟩ := hp2.sg.open hpos
  have hg4 := hv2' g hvb
  clear hv2' hp
  have O4d := O4
  go_cut [22] (fun v22 wx => v22 = .bool (turned k l) ∧ Rw w2 wx)
  case first =>
    have Dr : Below w2.heap.size w2 w2.drew := below_drewN (Below.refl _ _) 1
    by_cases hks : k = kShare
    · match l, hn, hk hks, hp2, hpos with
      | [x, y], _, _, hp2, hpos =>
        have EQ : ((by8 k).toList == [115, 104, 97, 114, 101]) = true := beq_l true (by simp [show k = [115, 104, 97, 114, 101] from hks])
        have HT : Hid (turned k [x, y] = lt y.2.1 x.2.1) := by show (decide (k = kShare) && _) = _; rw [decide_eq_true hks, Bool.true_and]
        clear hks hk
        have cx : ∀ w', Below w2.drew.heap.size w2.drew w' → w'.cell? ⟨g, off + 1, none⟩ = some (.string (by8 x.2.1)) := fun w' hb => by
          have := (PT.cells (l := [x, y]) ((hp2.below Dr).below hb) (by show 0 < 2; omega) 0 x rfl).1 1 _ rfl
          rwa [Nat.zero_mul, Nat.add_zero] at this
        have cy : ∀ w', Below w2.drew.heap.size w2.drew w' → w'.cell? ⟨g, off + 3 + 1, none⟩ = some (.string (by8 y.2.1)) := fun w' hb => by
          have := (PT.cells (l := [x, y]) ((hp2.below Dr).below hb) (by show 0 < 2; omega) 1 y rfl).1 1 _ rfl
          rwa [Nat.one_mul] at this
        have EL : Op.bytesLess (by8 y.2.1).toList (by8 x.2.1).toList = lt y.2.1 x.2.1 := by rw [ByteArray.toList_eq, ByteArray.toList_eq]; rfl
        refine region_quiet (C := fun w' => Below w2.drew.heap.size w2.drew w') (by kernel_rfl) (by kernel_rfl) (Below.refl _ _) ?_
        ((with_reducible refine wpQuiet_step (fun K hK => ?_)); refine quiet_plainG (.string (by8 k)) (by first | rfl | simp [Region.wanted, yielded]) (fun w' hw' => by go_simp) ?_; go_simp; (with_reducible apply hK); clear hK K)
        ((with_reducible refine wpQuiet_step (fun K hK => ?_)); refine quiet_plainG (.bool true) (by first | rfl | simp [Region.wanted, yielded]) (fun w' hw' => by go_simp) ?_; go_simp; (with_reducible apply hK); clear hK K)
        ((with_reducible refine wpQuiet_step (fun K hK => ?_)); refine quiet_plainG (.bool true) (by first | rfl | simp [Region.wanted, yielded]) (fun w' hw' => by go_simp) ?_; go_simp; (with_reducible apply hK); clear hK K)
        ((with_reducible refine wpQuiet_step (fun K hK => ?_)); refine quiet_plainG (.slice (some ⟨g, off, none⟩) 2 cap) (by first | rfl | simp [Region.wanted, yielded]) (fun w' hw' => by go_simp) ?_; go_simp; (with_reducible apply hK); clear hK K)
        ((with_reducible refine wpQuiet_step (fun K hK => ?_)); refine quiet_plainG (.pointer (some ⟨g, off + 3, none⟩)) (by first | rfl | simp [Region.wanted, yielded]) (fun w' hw' => by go_simp) ?_; go_simp; (with_reducible apply hK); clear hK K)
        ((with_reducible refine wpQuiet_step (fun K hK => ?_)); refine quiet_plainG (.pointer (some ⟨g, off + 3 + 1, none⟩)) (by first | rfl | simp [Region.wanted, yielded]) (fun w' hw' => by go_simp) ?_; go_simp; (with_reducible apply hK); clear hK K)
        ((with_reducible refine wpQuiet_step (fun K hK => ?_)); refine quiet_plainG (.string (by8 y.2.1)) (by first | rfl | simp [Region.wanted, yielded]) (fun w' hw' => by have h := cy w' hw'; go_simp; try simp [h]) ?_; go_simp; (with_reducible apply hK); clear hK K)
        ((with_reducible refine wpQuiet_step (fun K hK => ?_)); refine quiet_plainG (.slice (some ⟨g, off, none⟩) 2 cap) (by first | rfl | simp [Region.wanted, yielded]) (fun w' hw' => by go_simp) ?_; go_simp; (with_reducible apply hK); clear hK K)
        ((with_reducible refine wpQuiet_step (fun K hK => ?_)); refine quiet_plainG (.pointer (some ⟨g, off, none⟩)) (by first | rfl | simp [Region.wanted, yielded]) (fun w' hw' => by go_simp) ?_; go_simp; (with_reducible apply hK); clear hK K)
        ((with_reducible refine wpQuiet_step (fun K hK => ?_)); refine quiet_plainG (.pointer (some ⟨g, off + 1, none⟩)) (by first | rfl | simp [Region.wanted, yielded]) (fun w' hw' => by go_simp) ?_; go_simp; (with_reducible apply hK); clear hK K)
        ((with_reducible refine wpQuiet_step (fun K hK => ?_)); refine quiet_plainG (.string (by8 x.2.1)) (by first | rfl | simp [Region.wanted, yielded]) (fun w' hw' => by have h := cx w' hw'; go_simp; try simp [h]) ?_; go_simp; (with_reducible apply hK); clear hK K)
        ((with_reducible refine wpQuiet_step (fun K hK => ?_)); refine quiet_plainG (.bool (lt y.2.1 x.2.1)) (by first | rfl | simp [Region.wanted, yielded]) (fun w' hw' => by go_simp) ?_; go_simp; (with_reducible apply hK); clear hK K)
        ((with_reducible refine wpQuiet_step (fun K hK => ?_)); refine quiet_plainG (.bool (lt y.2.1 x.2.1)) (by first | rfl | simp [Region.wanted, yielded]) (fun w' hw' => by go_simp) ?_; go_simp; (with_reducible apply hK); clear hK K)
        refine wpQuiet_nil ?_
        intro w5 hw5
        go_wp2_with fail
        go_meet
        rw [HT.out]
        exact ⟨rfl, Dr.trans (hw5.mono Dr.size)⟩
    · have EQ : ((by8 k).toList == [115, 104, 97, 114, 101]) = false := beq_l false (by simp [show k ≠ [115, 104, 97, 114, 101] from hks])
      have HT : turned k l = false := by unfold turned; split <;> simp [hks]
      have HTH := Lib.hid HT
      clear HT
      refine region_quiet (C := fun w' => Below w2.drew.heap.size w2.drew w') (by kernel_rfl) (by kernel_rfl) (Below.refl _ _) ?_
      ((with_reducible refine wpQuiet_step (fun K hK => ?_)); refine quiet_plainG (.string (by8 k)) (by first | rfl | simp [Region.wanted, yielded]) (fun w' hw' => by go_simp) ?_; go_simp; (with_reducible apply hK); clear hK K)
      ((with_reducible refine wpQuiet_step (fun K hK => ?_)); refine quiet_plainG (.bool false) (by first | rfl | simp [Region.wanted, yielded]) (fun w' hw' => by go_simp) ?_; go_simp; (with_reducible apply hK); clear hK K)
      ((with_reducible refine wpQuiet_step (fun K hK => ?_)); refine quiet_plainG (.bool false) (by first | rfl | simp [Region.wanted, yielded]) (fun w' hw' => by go_simp) ?_; go_simp; (with_reducible apply hK); clear hK K)
      ((with_reducible refine wpQuiet_step (fun K hK => ?_)); refine quiet_skip (by first | rfl | simp [Region.wanted, yielded]) ?_; go_simp; (with_reducible apply hK); clear hK K)
      ((with_reducible refine wpQuiet_step (fun K hK => ?_)); refine quiet_skip (by first | rfl | simp [Region.wanted, yielded]) ?_; go_simp; (with_reducible apply hK); clear hK K)
      ((with_reducible refine wpQuiet_step (fun K hK => ?_)); refine quiet_skip (by first | rfl | simp [Region.wanted, yielded]) ?_; go_simp; (with_reducible apply hK); clear hK K)
      ((with_reducible refine wpQuiet_step (fun K hK => ?_)); refine quiet_skip (by first | rfl | simp [Region.wanted, yielded]) ?_; go_simp; (with_reducible apply hK); clear hK K)
      ((with_reducible refine wpQuiet_step (fun K hK => ?_)); refine quiet_skip (by first | rfl | simp [Region.wanted, yielded]) ?_; go_simp; (with_reducible apply hK); clear hK K)
      ((with_reducible refine wpQuiet_step (fun K hK => ?_)); refine quiet_skip (by first | rfl | simp [Region.wanted, yielded]) ?_; go_simp; (with_reducible apply hK); clear hK K)
      ((with_reducible refine wpQuiet_step (fun K hK => ?_)); refine quiet_skip (by first | rfl | simp [Region.wanted, yielded]) ?_; go_simp; (with_reducible apply hK); clear hK K)
      ((with_reducible refine wpQuiet_step (fun K hK => ?_)); refine quiet_skip (by first | rfl | simp [Region.wanted, yielded]) ?_; go_simp; (with_reducible apply hK); clear hK K)
      ((with_reducible refine wpQuiet_step (fun K hK => ?_)); refine quiet_skip (by first | rfl | simp [Region.wanted, yielded]) ?_; go_simp; (with_reducible apply hK); clear hK K)
      ((with_reducible refine wpQuiet_step (fun K hK => ?_)); refine quiet_plainG (.bool false) (by first | rfl | simp [Region.wanted, yielded]) (fun w' hw' => by go_simp) ?_; go_simp; (with_reducible apply hK); clear hK K)
      refine wpQuiet_nil ?_
      intro w5 hw5
      go_wp2_with fail
      go_meet
      rw [HTH.out]
      exact ⟨rfl, Dr.trans (hw5.mono Dr.size)⟩
  case rest =>
  obtain ⟨rfl, hb⟩ := hcut
  replace O4 := O4.below hb O4.lt
  replace hp2 := hp2.below hb
  replace BW := BW.trans (hb.mono BW.size)
  clear hb O4d
  go_upto_if 22 with fail
  go_cut [23] (fun _ wx => PT wx (.slice (some ⟨g, off, none⟩) l.length cap) (bl k l) ∧ Blk wx w.heap.size tT zT ∧ Below w.heap.size w wx)
  case first =>
    have HBL : Hid (bl k l = if turned k l then l.reverse else l) := rfl
    cases hb : turned k l
    · rw [hb] at HBL
      go_wp2_with fail
      go_meet
      rw [HBL.out]
      exact ⟨hp2, O4, BW⟩
    · have hl2 : l.length = 2 := by
        unfold turned at hb
        split at hb
        · rfl
        · cases hb
      rw [hb] at HBL
      match l, hl2, hp2, HBL with
      | [x, y], _, hp2, HBL =>
        go_wp2_with (go_at_call 50; refine (reverse_ok g off cap x y _ hp2).mono ?_; rintro e w5 ⟨rfl, hp5, hk5⟩)
        go_meet
        rw [HBL.out]
        exact ⟨hp5, hk5.blk O4 (by omega), BW.trans (hk5.below BW.size (fun k _ e => by omega))⟩
  case rest =>
  obtain ⟨hp3, O4, BW⟩ := hcut
  have LL := bl_len k l
  have HJL : Hid ((Tm.join (txs (bl k l))).length ≤ 100000) := hjl
  have hn2 : l.length ≤ 2 := by omega
  clear hjl hp2 hn hk
  generalize hL : bl k l = L at *
  have HL := Lib.hid hL
  clear hL
  rw [← LL] at hp3 hpos hnc hn2 ⊢
  clear LL
  obtain ⟨i0, hi, hz0, hz1, hz2⟩ := info_parts strInfo
  have I := Lib.hid hi
  have I0 := Lib.hid hz0
  have I1 := Lib.hid hz1
  have I2 := Lib.hid hz2
  clear hi hz0 hz1 hz2
  have hvbL : vblk (.slice (some ⟨g, off, none⟩) L.length cap) = some g := by simp [vblk]; omega
  have hgc : g < wc.heap.size := by
    obtain ⟨g', off', cap', e, _, _, _, h, _⟩ := hp3.sg.open hpos
    simp only [Value.slice.injEq, Option.some.injEq, Addr.mk.injEq] at e
    rw [e.1.1]; exact h
  have H3 := Lib.hid (And.intro hp3 (And.intro O4 BW))
  clear O4 BW
  go_upto_region 6 with fail
  go_loopw [5, 27] (fun v5 v27 wr => ∃ (i : Nat) (vw : Value), i ≤ L.length ∧ v27 = .int .i64 i ∧ v5 = vw ∧ Sg wr 1 vw i (sv ((txs L).take i)) ∧ (∀ q, vblk vw = some q → wc.heap.size ≤ q) ∧ Below wc.heap.size wc wr) (fun _ v27 _ => L.length - (intOf v27).toNat)
  case atStart => exact ⟨0, .slice none 0 0, by omega, rfl, rfl, Sg.nil _ 1, (fun q h => by simp [vblk] at h), Below.refl _ _⟩
  case round =>
    obtain ⟨i, vw, hi, rfl, rfl, hs, hv, hB⟩ := hrel
    by_cases hgo : i < L.length
    · have hx := List.getElem?_eq_getElem hgo
      have hpr := H3.out.1.below hB
      have cx := (PT.cells hpr hpos i _ hx).1
      generalize L[i] = x at *
      have hsl := hpr.sl _ (List.mem_of_getElem? hx)
      have HTK := Lib.hid (sv_take (txs L) i (by simpa [txs] using hgo))
      have HTX : Hid ((txs L)[i]'(by simpa [txs] using hgo) = x.2.1) := by
        show (txs L)[i]'_ = _
        have h : (txs L)[i]? = some x.2.1 := by unfold txs; rw [List.getElem?_map, hx]; rfl
        rw [List.getElem?_eq_getElem (by simpa [txs] using hgo)] at h
        exact Option.some.inj h
      have HT2 : Hid (sv ((txs L).take i) ++ [.string (by8 x.2.1)] = sv ((txs L).take (i + 1))) := by rw [← HTX.out]; exact HTK
      clear HTK HTX hx
      obtain ⟨kx, tx, vx⟩ := x
      have ONE3 : ∀ v ∈ ([.string (by8 kx), .string (by8 tx), vx] : List Value), v.oneCell' = true := by
        obtain ⟨a, n, c, e⟩ := hsl
        rw [show vx = .slice a n c from e]
        intro v hv
        simp only [List.mem_cons, List.not_mem_nil, or_false] at hv
        rcases hv with rfl | rfl | rfl <;> rfl
      have N7 : Blk (wr.alloc (.cells #[.string ⟨#[]⟩, .string ⟨#[]⟩, .slice none 0 0] tT)) wr.heap.size tT zT := Blk.new wr tT zT
      have HB7 := below1 wr (.cells #[.string ⟨#[]⟩, .string ⟨#[]⟩, .slice none 0 0] tT)
      go_upto_region 8 with (first | refine wpList_load_mid rfl tT _ rfl g (off + i * 3) (by go_simp) [.string (by8 kx), .string (by8 tx), vx] _ cx Tryz.underlying25 rfl t_size ?_ | refine store_blk (n := 3) (cs := [.string (by8 kx), .string (by8 tx), vx]) N7 t_size rfl rfl ONE3 rfl rfl rfl rfl ?_)
      refine wp_gen (fun wx => Blk wx wr.heap.size tT [.string (by8 kx), .string (by8 tx), vx] ∧ Below wr.heap.size wr wx) ⟨N7.setRow _, below_row HB7 _ _ (Nat.le_refl _)⟩ ?_
      clear N7 HB7
      rintro w5 ⟨N7, HB7⟩
      replace hs := hs.below HB7
      have hB5 := hB.trans (HB7.mono hB.size)
      have c7 := N7.cell 1 _ rfl
      generalize hc7 : wr.heap.size = c7b at *
      have hu : Sg (w5.alloc (.cells #[.string (by8 tx)] 9)) 1 (.slice (some ⟨w5.heap.size, 0, none⟩) 1 1) 1 (sv [tx]) := by
        have h : Blk (w5.alloc (.cells #[.string (by8 tx)] 9)) w5.heap.size 9 [.string (by8 tx)] := Blk.new w5 _ [.string (by8 tx)]
        refine ⟨rfl, _, 1, rfl, Nat.le_refl _, by unfold maxLen; omega, .inr ⟨_, 0, rfl, h.lt, fun j hj => ?_, fun j hj => ?_⟩⟩
        · obtain rfl : j = 0 := by omega
          exact ⟨by rw [h.cell 0 _ rfl]; rfl, h.free 0⟩
        · obtain rfl : j = 0 := by omega
          exact h.cell 0 _ rfl
      have hsv := (hs.below (below1 w5 (.cells #[.string (by8 tx)] 9)))
      have m1 : i + 1 ≤ maxLen := by unfold maxLen; omega
      have m2 : (i + 1) * 16 ≤ 140737488355328 := by omega
      have OSV := sv_one [tx]
      have HBA := below1 w5 (.cells #[.string (by8 tx)] 9)
      have HB6 := Lib.hid (hB5.trans (HBA.mono hB5.size))
      have HV := Lib.hid hv
      go_wp2_with (at_builtin; refine wpList_append_any _ rfl (.tmp 31) (.tmp 34) 34 rfl 9 i0 (.string ⟨#[]⟩) 1 16 Tryz.underlying34 I.out I0.out I1.out I2.out rfl (by decide) _ i _ rfl hsv _ 1 (sv [tx]) rfl hu OSV m1 m2 ?grow)
      case grow =>
        intro v' w6 hs6 hv6 hk6
        have hB6 := HB6.out
        have hv := HV.out
        have b6 : Below wc.heap.size wc w6 := hB6.trans (hk6.below hB6.size (fun q hq e => by have := hv q e; omega))
        have f6 : ∀ q, vblk v' = some q → wc.heap.size ≤ q := fun q hq => by
          rcases hv6 q hq with h | h
          · exact hv q h
          · have z := hB6.size
            simp at z
            omega
        have s6 : Sg w6 1 v' (i + 1) (sv ((txs L).take (i + 1))) := by rw [← HT2.out]; exact hs6
        have R6 := Lib.hid (And.intro s6 (And.intro f6 b6))
        clear hs6 hv6 hk6 s6 f6 b6 hB6 hv HV HB6
        go_wp2_with fail
        go_roundw
        case rel => exact ⟨i + 1, v', by omega, by go_num, rfl, R6.out.1, R6.out.2.1, R6.out.2.2⟩
        case measure => simp [intOf]; omega
    · obtain rfl : i = L.length := by omega
      rw [show (txs L).take L.length = txs L from List.take_of_length_le (by simp [txs])] at hs
      obtain ⟨g', off', cap', rfl, hnc', _, hvb', hgl', hcell', _⟩ := hs.open hpos
      have hlen : ((txs L).map by8).length = L.length := by simp [txs]
      have JN := sh_join g' off' cap' ((txs L).map by8) ⟨#[44]⟩ wr (fun j x hj => by
        have hjl : j < L.length := by have := (List.getElem?_eq_some_iff.1 hj).1; omega
        rw [(hcell' j (by omega)).1]
        unfold sv
        rw [List.getElem?_map] at hj ⊢
        obtain ⟨y, hy, rfl⟩ := Option.map_eq_some_iff.1 hj
        rw [hy]; rfl) hgl' (by rw [hlen]; omega) (by rw [hlen]; exact hnc') (by
        rw [List.map_map, show ((fun s : ByteArray => s.data.toList) ∘ by8) = id from rfl, List.map_id]
        show (Lib.join (txs L) [44]).length ≤ _
        rw [join_is _ (by simp only [txs, List.length_map]; omega)]
        have := HJL.out
        omega)
      rw [hlen, List.map_map, show ((fun s : ByteArray => s.data.toList) ∘ by8) = id from rfl, List.map_id] at JN
      rw [show Lib.join (txs L) (ByteArray.mk #[44]).data.toList = Tm.join (txs L) from join_is _ (by simp only [txs, List.length_map]; omega)] at JN
      replace JN : Calls Tryz.prog 51 #[.slice (some ⟨g', off', none⟩) L.length cap', .string ⟨#[44]⟩] wr fun e w' => e = .returned (.string (by8 (Tm.join (txs L)))) ∧ Below wr.heap.size wr w' := JN
      have H4 := Lib.hid (And.intro (H3.out.1.below hB) (And.intro (H3.out.2.1.below hB H3.out.2.1.lt) (H3.out.2.2.trans (hB.mono H3.out.2.2.size))))
      have hjj := HJL.out
      have WT : Hid (by8 k ++ ⟨#[40]⟩ ++ by8 (Tm.join (txs L)) ++ ⟨#[41]⟩ = by8 (wt k (txs L))) := by
        show _ = _
        rw [show (⟨#[40]⟩ : ByteArray) = by8 [40] from rfl, show (⟨#[41]⟩ : ByteArray) = by8 [41] from rfl, by8_app, by8_app, by8_app]
        unfold wt
        simp
      have hk1 : (by8 k).size = k.length := by8_size k
      have hk2 : (by8 k ++ ⟨#[40]⟩).size = k.length + 1 := by rw [ByteArray.size_append, hk1]; rfl
      have hj1 : (by8 (Tm.join (txs L))).size = (Tm.join (txs L)).length := by8_size _
      have hk3 : (by8 k ++ ⟨#[40]⟩ ++ by8 (Tm.join (txs L))).size = k.length + 1 + (Tm.join (txs L)).length := by rw [ByteArray.size_append, hk2, hj1]
      clear hs hcell' hB hv hlen
      generalize hwtx : wt k (txs L) = WTX at *
      have HWTX := Lib.hid hwtx
      clear hwtx
      generalize Tm.join (txs L) = J at *
      have WT2 := WT.out
      have ONE : ∀ v ∈ ([.string (by8 k), .string (by8 WTX), .slice (some ⟨g, off, none⟩) L.length cap] : List Value), v.oneCell' = true := by
        intro v hv
        simp only [List.mem_cons, List.not_mem_nil, or_false] at hv
        rcases hv with rfl | rfl | rfl <;> rfl
      go_wp2_with (first | (go_at_call 51; refine JN.mono ?_; rintro e w5 ⟨rfl, hb5⟩; have O5 := H4.out.2.1.below hb5 H4.out.2.1.lt) | refine store_blk (n := 3) (cs := [.string (by8 k), .string (by8 WTX), .slice (some ⟨g, off, none⟩) L.length cap]) O5 t_size rfl rfl ONE rfl rfl rfl (by rw [← WT2]; rfl) ?_)
      have P5 := (H4.out.1.below hb5).row (b := w.heap.size) (fun q hq => by rw [hvbL] at hq; have := Option.some.inj hq; omega) #[.string (by8 k), .string (by8 WTX), .slice (some ⟨g, off, none⟩) L.length cap]
      have B5 := below_row (H4.out.2.2.trans (hb5.mono H4.out.2.2.size)) w.heap.size #[.string (by8 k), .string (by8 WTX), .slice (some ⟨g, off, none⟩) L.length cap] (Nat.le_refl _)
      refine ret_blk (n := 3) rfl (O5.setRow [.string (by8 k), .string (by8 WTX), .slice (some ⟨g, off, none⟩) L.length cap]) Tryz.underlying25 rfl t_size rfl rfl rfl ⟨.slice (some ⟨g, off, none⟩) L.length cap, ?_, ?_, ?_, B5⟩
      · rw [HL.out, HWTX.out]; rfl
      · rw [HL.out]; exact P5
      · intro q hq
        rw [hvbL] at hq
        have := Option.some.inj hq
        omega
end Tv
end Go.Proofs.YtkhdhiddhnmdkaaGreatDoor
