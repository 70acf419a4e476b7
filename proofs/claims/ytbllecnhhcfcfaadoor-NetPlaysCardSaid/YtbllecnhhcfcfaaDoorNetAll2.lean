/-
A Wire's Down and Bend.
-/
import Derived.Test.YtbllecnhhcfcfaaDoorNetAll
import Derived.Test.YtbllecnhhcfcfaaDoorBySg
import Derived.LoopTactic
import Derived.Deep.DeepCutAuto
import Derived.BigRegion
import Derived.Outline
namespace Go.Proofs.YtbllecnhhcfcfaaDoor
open Go.RowKit
variable {w : World} {b : Nat} {ls : List ByteArray} {room : Nat} {d : Bool}

set_option maxHeartbeats 400000 in
theorem down_any (h : WD w b ls room d) : Calls Tryd.prog 11 #[.pointer (some ⟨b, 0, none⟩)] w fun e w' => e = .returned (.tuple #[]) ∧ WD w' b [emp0, emp0] room true ∧ Keeps (fun k => k = b) w w' := by
  have c0 := h.way 0 (by omega)
  have c1 := h.way 1 (by omega)
  have c3 := h.down
  have f0 := h.blk.free 0
  have f1 := h.blk.free 1
  have f3 := h.blk.free 3
  have W1 := (h.set 0 (by omega) emp0).set 1 (by omega) emp0
  have e1 : (ls.set 0 emp0).set 1 emp0 = [emp0, emp0] := by
    have h2 := h.two
    match ls, h2 with
    | [_, _], _ => rfl
  rw [e1] at W1
  have W3 : WD (((w.setCell ⟨b, 0, none⟩ (.string emp0)).setCell ⟨b, 1, none⟩ (.string emp0)).setCell ⟨b, 3, none⟩ (.bool true)) b [emp0, emp0] room true := ⟨W1.blk.set 3 (.bool true), rfl⟩
  have K3 : Keeps (fun k => k = b) w (((w.setCell ⟨b, 0, none⟩ (.string emp0)).setCell ⟨b, 1, none⟩ (.string emp0)).setCell ⟨b, 3, none⟩ (.bool true)) := (((Keeps.refl (fun k => k = b) w).set b 0 _ (fun _ => rfl)).set b 1 _ (fun _ => rfl)).set b 3 _ (fun _ => rfl)
  have HW := Lib.hid W3
  have HK := Lib.hid K3
  clear h W1 W3 K3 e1
  go_enter Tryd.func11, Tryd.ntmps11
  go_wp2_with fail
  go_end0
  exact ⟨rfl, HW.out, HK.out⟩

theorem xor8 (x y : Nat) (hx : x < 256) (hy : y < 256) : bits .xor .u8 (x : Int) (y : Int) = ((x ^^^ y : Nat) : Int) := by
  have key : (BitVec.ofInt 8 (x : Int) ^^^ BitVec.ofInt 8 (y : Int)).toNat = x ^^^ y := by
    rw [BitVec.toNat_xor, BitVec.toNat_ofInt, BitVec.toNat_ofInt]
    congr 1 <;> omega
  have hlt : x ^^^ y < 256 := Nat.xor_lt_two_pow (n := 8) hx hy
  show IntKind.u8.wrap ((BitVec.ofInt 8 (x : Int) ^^^ BitVec.ofInt 8 (y : Int)).toNat : Nat) = _
  rw [key, IntKind.wrap_u8]
  omega
/-- a string with a byte turned -/
def bendS (s : ByteArray) (k y : Nat) : ByteArray := ⟨(s.data.toList.set k (UInt8.ofNat ((s.data.toList.getD k 0).toNat ^^^ y))).toArray⟩
theorem bendS_size (s : ByteArray) (k y : Nat) : (bendS s k y).size = s.size := by
  show (List.toArray _).size = _
  rw [List.size_toArray, List.length_set]; rfl
theorem bend_byte (s : ByteArray) (k y : Nat) (hy : y < 256) : (((UInt8.ofNat ((s.data.toList.getD k 0).toNat ^^^ y)).toNat : Nat) : Int) = bits .xor .u8 (((s.data.toList.getD k 0).toNat : Nat) : Int) (y : Int) := by
  have hx : (s.data.toList.getD k 0).toNat < 256 := UInt8.toNat_lt _
  rw [xor8 _ _ hx hy]
  have hlt : (s.data.toList.getD k 0).toNat ^^^ y < 256 := Nat.xor_lt_two_pow (n := 8) hx hy
  rw [UInt8.toNat_ofNat']
  omega

set_option maxHeartbeats 400000 in
theorem bend_no (ad : Nat → Addr) (hS : SentF w 66 errGs ad) (h : WD w b ls room d) (way n y : Int) (hm : mayC way d ≠ 0) :
    Calls Tryd.prog 13 #[.pointer (some ⟨b, 0, none⟩), .int .i64 way, .int .i64 n, .int .u8 y] w fun e w' => e = .returned (errV ad (mayC way d)) ∧ w = w' := by
  have M := may_any ad hS h way
  rw [errV_pos _ _ hm] at M ⊢
  clear hS h hm
  go_enter Tryd.func13, Tryd.ntmps13
  go_wp2_with fail
  refine M.mono ?_
  rintro e w' ⟨rfl, rfl⟩
  go_wp2_with fail
  go_ret
  exact ⟨rfl, rfl⟩
set_option maxHeartbeats 400000 in
theorem bend_out (ad : Nat → Addr) (hS : SentF w 66 errGs ad) (h : WD w b ls room false) (k : Nat) (hk : k < 2) (n y : Int) (hn : n < 0 ∨ ((ls.getD k emp0).size : Int) ≤ n) :
    Calls Tryd.prog 13 #[.pointer (some ⟨b, 0, none⟩), .int .i64 k, .int .i64 n, .int .u8 y] w fun e w' => e = .returned (errV ad 8) ∧ w = w' := by
  have M := may_any ad hS h k
  rw [mayC_ok k hk] at M
  have M' : Calls Tryd.prog 17 #[.pointer (some ⟨b, 0, none⟩), .int .i64 k] w fun e w' => e = .returned .nilIface ∧ w = w' := M
  have c7 : w.cell? ⟨7, 0, none⟩ = some (.iface 66 (.pointer (some (ad 7)))) := hS.cell 7 (by decide)
  have ck := h.way k hk
  have hk' : (k : Int) < 2 := by omega
  generalize ls.getD k emp0 = s at *
  clear hS h M
  rcases hn with hn | hn
  · go_enter Tryd.func13, Tryd.ntmps13
    go_wp2_with fail
    refine M'.mono ?_
    rintro e w' ⟨rfl, rfl⟩
    go_wp2_with fail
    go_ret
    exact ⟨rfl, rfl⟩
  · have hn0 : 0 ≤ n := by omega
    go_enter Tryd.func13, Tryd.ntmps13
    go_wp2_with fail
    refine M'.mono ?_
    rintro e w' ⟨rfl, rfl⟩
    go_wp2_with fail
    go_ret
    exact ⟨rfl, rfl⟩
set_option maxHeartbeats 1000000 in
set_option maxRecDepth 100000 in
theorem bend_yes (ad : Nat → Addr) (hS : SentF w 66 errGs ad) (h : WD w b ls room false) (k : Nat) (hk : k < 2) (n y : Nat) (hy : y < 256) (hn : n < (ls.getD k emp0).size) (hs : (ls.getD k emp0).size ≤ 16777216) :
    Calls Tryd.prog 13 #[.pointer (some ⟨b, 0, none⟩), .int .i64 k, .int .i64 n, .int .u8 y] w fun e w' => e = .returned .nilIface ∧ WD w' b (ls.set k (bendS (ls.getD k emp0) n y)) room false ∧ Keeps (fun k => k = b) w w' := by
  have M := may_any ad hS h k
  rw [mayC_ok k hk] at M
  have M' : Calls Tryd.prog 17 #[.pointer (some ⟨b, 0, none⟩), .int .i64 k] w fun e w' => e = .returned .nilIface ∧ w = w' := M
  have ck := h.way k hk
  have hk' : (k : Int) < 2 := by omega
  have H := Lib.hid h
  obtain ⟨s, hse⟩ : ∃ s, s = ls.getD k emp0 := ⟨_, rfl⟩
  rw [← hse] at ck hn hs ⊢
  have hcv := run_by (P := Tryd.prog) w 9 42 5 s Tryd.underlying9 Tryd.underlying42 Tryd.underlying5
  have SG := by_sg w 5 s (by unfold maxLen; omega)
  have SG' := Lib.hid SG
  have BB := Lib.hid (by_below w 5 s)
  have BK := Lib.hid (by_blk w 5 s)
  have HSE := Lib.hid hse
  have hl : s.data.toList.length = s.size := Array.length_toList
  obtain ⟨g, off, cap, hv, hnc, hcm, hvb, hgl, hcell, -⟩ := SG.open (by omega)
  have hcn := (hcell n (by omega)).1.trans (byv_get _ _ (by rw [hl]; exact hn))
  have hfn := (hcell n (by omega)).2
  have hgw : g = w.heap.size := BK.out g hvb
  have HVB := Lib.hid hvb
  have HBY := Lib.hid (bend_byte s n y hy)
  have hni : (n : Int) < s.size := by omega
  unfold maxLen at hcm
  clear hS h M SG hse hcell hvb
  rw [hv] at hcv
  rw [hv] at SG'
  have hgb : g ≠ b := by have := H.out.blk.lt; omega
  have HGW := Lib.hid hgw
  obtain ⟨w1, hw1⟩ : ∃ w1, w1 = byWorld w 5 s := ⟨_, rfl⟩
  rw [← hw1] at hcv hcn hfn SG' BB
  obtain ⟨x, hx⟩ : ∃ x, x = (s.data.toList.getD n 0).toNat := ⟨_, rfl⟩
  rw [← hx] at hcn
  have HX := Lib.hid hx
  have H1 := Lib.hid (H.out.below BB.out H.out.blk.lt)
  clear hx hv hw1 hgw hgl BK HVB
  go_enter Tryd.func13, Tryd.ntmps13
  go_wp2_with fail
  refine M'.mono ?_
  rintro e w' ⟨rfl, rfl⟩
  go_upto_region 8 with fail
  have S2 : Sg (w1.setCell ⟨g, off + n, none⟩ (.int .u8 (bits .xor .u8 x y))) 1 (.slice (some ⟨g, off, none⟩) s.size cap) s.size (byv (s.data.toList.set n (UInt8.ofNat ((s.data.toList.getD n 0).toNat ^^^ y)))) := by
    have h := SG'.out.set n hn (.int .u8 (bits .xor .u8 x y))
    rw [HX.out, ← HBY.out, byv_set] at h
    rw [HX.out, ← HBY.out]
    exact h
  have W2 := H1.out.keeps ((Keeps.refl (fun k => k = g) w1).set g (off + n) (.int .u8 (bits .xor .u8 x y)) (fun _ => rfl)) (fun e => hgb e.symm)
  have K2 : Keeps (fun k => k = b) w (w1.setCell ⟨g, off + n, none⟩ (.int .u8 (bits .xor .u8 x y))) := (Keeps.of_below BB.out).set g _ _ (fun h => by have := HGW.out; omega)
  have S2' := Lib.hid S2
  have W2' := Lib.hid W2
  have K2' := Lib.hid K2
  clear S2 W2 K2 hcn hfn SG' H1 BB hcv
  generalize World.setCell w1 _ _ = w2 at *
  have hvg : ∀ g', vblk (.slice (some ⟨g, off, none⟩) s.size cap) = some g' → ¬ g' = b := fun g' h e => by simp [vblk] at h; omega
  (refine Pl.wp_region_plan (fun k => k = b) [(true, 0), (true, 1), (true, 2), (true, 3), (true, 4), (true, 5), (true, 6), (false, 7)] (by kernel_rfl) (by kernel_rfl) ?_)
  (refine Pl.plan_head (i := 0) rfl (fun K hK => ?_); refine Pl.plan_plain (.pointer (some ⟨b, 0, none⟩)) (by first | rfl | simp [Region.wanted, yielded]) (fun w' hw' => by go_simp) ?_; go_simp; (with_reducible apply hK); clear hK K)
  (refine Pl.plan_head (i := 1) rfl (fun K hK => ?_); refine Pl.plan_plain (.int .i64 k) (by first | rfl | simp [Region.wanted, yielded]) (fun w' hw' => by go_simp) ?_; go_simp; (with_reducible apply hK); clear hK K)
  (refine Pl.plan_head (i := 2) rfl (fun K hK => ?_); refine Pl.plan_plain (.slice (some ⟨g, off, none⟩) s.size cap) (by first | rfl | simp [Region.wanted, yielded]) (fun w' hw' => by go_simp) ?_; go_simp; (with_reducible apply hK); clear hK K)
  (refine Pl.plan_head (i := 3) rfl (fun K hK => ?_); refine Pl.plan_plain (.string (bendS s n y)) (by first | rfl | simp [Region.wanted, yielded]) (fun w' hw' => by have h : (convert 42 9 (.slice (some ⟨g, off, none⟩) s.size cap)).run Tryd.prog w' = .ok (.string (bendS s n y)) w' := run_str (P := Tryd.prog) (src := 42) (dst := 9) (e := 5) Tryd.underlying42 Tryd.underlying5 Tryd.underlying9 ((show Sg w2.drew 1 _ _ _ from S2'.out).keeps hw' hvg); go_simp) ?_; go_simp; (with_reducible apply hK); clear hK K)
  (refine Pl.plan_head (i := 4) rfl (fun K hK => ?_); refine Pl.plan_plain (.pointer (some ⟨b, 0, none⟩)) (by first | rfl | simp [Region.wanted, yielded]) (fun w' hw' => by go_simp) ?_; go_simp; (with_reducible apply hK); clear hK K)
  (refine Pl.plan_head (i := 5) rfl (fun K hK => ?_); refine Pl.plan_plain (.pointer (some ⟨b, 0, none⟩)) (by first | rfl | simp [Region.wanted, yielded]) (fun w' hw' => by go_simp) ?_; go_simp; (with_reducible apply hK); clear hK K)
  (refine Pl.plan_head (i := 6) rfl (fun K hK => ?_); refine Pl.plan_plain (.pointer (some ⟨b, k, none⟩)) (by first | rfl | simp [Region.wanted, yielded]) (fun w' hw' => by go_simp) ?_; go_simp; (with_reducible apply hK); clear hK K)
  refine Pl.plan_sole (i := 7) rfl (fun w5 h5 Q5 hQ5 => ?_)
  have B5 : Below w2.heap.size w2 w5 := (below_drewN (Below.refl _ _) 1).trans h5
  have W5 := W2'.out.below B5 W2'.out.blk.lt
  have K5 := K2'.out.trans (Keeps.of_below (F := fun _ => False) B5) (fun _ _ h => h.elim)
  have c5 := W5.way k hk
  have f5 := W5.blk.free k
  have W6 := Lib.hid (W5.set k hk (bendS s n y))
  have K6 := Lib.hid (K5.set b k (.string (bendS s n y)) (fun _ => rfl))
  have R6 : Hid (Keeps (fun k => k = b) w2.drew (w5.setCell ⟨b, k, none⟩ (.string (bendS s n y)))) := Lib.hid (((Keeps.refl (fun k => k = b) w2.drew).rw h5).set b k _ (fun _ => rfl))
  clear W5 K5 B5 h5
  go_wp2_with fail
  refine hQ5 _ _ R6.out ?_
  clear hQ5 Q5
  generalize World.setCell w5 _ _ = w6 at *
  refine Pl.plan_nil (fun w7 h7 => ?_)
  have W7 := Lib.hid (W6.out.below h7 W6.out.blk.lt)
  have K7 := Lib.hid (K6.out.rw h7)
  clear h7 c5 f5
  go_wp2_with fail
  go_ret
  exact ⟨rfl, W7.out, K7.out⟩
end Go.Proofs.YtbllecnhhcfcfaaDoor
