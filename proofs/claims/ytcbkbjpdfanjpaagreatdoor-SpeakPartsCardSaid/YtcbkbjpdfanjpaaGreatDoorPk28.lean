/-
packet: a packet's nonce.
wire.In on bytes that are there: Of, Raw, num, Byte, Bool, U32, Text, Left, Err, End; Name of a name.
-/
import Derived.Shelf.RegionOpenPlain
import Derived.Test.YtcbkbjpdfanjpaaGreatDoorPk21
import Derived.Test.YtcbkbjpdfanjpaaGreatDoorPk27
import Derived.Test.YtcbkbjpdfanjpaaGreatDoorPk18
import Derived.Test.YtcbkbjpdfanjpaaGreatDoorPk07
import Derived.Test.YtcbkbjpdfanjpaaGreatDoorPk03
import Derived.Test.YtcbkbjpdfanjpaaGreatDoorPk22
namespace Go.Proofs.YtcbkbjpdfanjpaaGreatDoor
open Go.RowKit
set_option maxRecDepth 100000
namespace Pt
open Wob (IsO be4 beK)
def nonL (c : Nat) : S := be4 0 ++ beK 8 c
theorem nonL_len (c : Nat) : (nonL c).length = 12 := by
  unfold nonL
  rw [List.length_append, Wob.beK_len]
  rfl
set_option maxHeartbeats 8000000 in
theorem nonce_ok (b c : Nat) (t : TypeId) (sl : Bool) (key : S) (tail : List Value) (w : World) (h : Blk w b t (lnC c sl key tail)) :
    Calls Tryz.prog 32 #[.pointer (some ⟨b, 0, none⟩)] w fun e w' => e = .returned (.agg (byv (nonL c)).toArray) ∧ Below w.heap.size w w' := by
  have HB := Lib.hid h
  have hbl := h.lt
  obtain ⟨L, hL⟩ : ∃ L, L = nonL c := ⟨_, rfl⟩
  have LL : Hid ((byv L).length = 12) := Lib.hid (by rw [byv_len, hL, nonL_len])
  have hsz : (by8 L).size = 12 := by rw [by8_size, hL, nonL_len]
  have HL := Lib.hid hL
  rw [← hL]
  clear h hL
  go_enter Tryz.func32, Tryz.ntmps32
  go_upto_region 2 with fail
  refine wp_gen (fun wx => Blk wx w.heap.size 79 (List.replicate 12 (.int .u8 0)) ∧ IsO (w.heap.size + 1) (w.heap.size + 1) [] wx ∧ Blk wx b t (lnC c sl key tail) ∧ Below w.heap.size w wx ∧ w.heap.size + 1 ≤ wx.heap.size) ⟨(Blk.new w _ (List.replicate 12 (.int .u8 0))).alloc _, by
    have := Lib.fresh_isBuilder Wob.tO 5 (w.alloc (.cells (List.replicate 12 (.int .u8 0)).toArray 79))
    rwa [show (w.alloc (.cells (List.replicate 12 (Value.int .u8 0)).toArray 79)).heap.size = w.heap.size + 1 by simp] at this, (HB.out.alloc _).alloc _, below2 _ _ _, by simp⟩ ?_
  generalize ho : w.heap.size + 1 = o at *
  rintro w1 ⟨R1, O1, L1, B1, s1⟩
  have HK := Lib.hid (And.intro (show IsO o o [] w1.drew from O1) (And.intro (R1.drew 1) (And.intro (L1.drew 1) (And.intro (below_drewN B1 1) (show o ≤ w1.drew.heap.size from s1)))))
  clear R1 O1 L1 B1 s1
  have C0 : Hid (∀ w', Keeps (fun q => o ≤ q) w1.drew w' → w'.cell? ⟨b, 0, none⟩ = some (.int .u64 (c : Nat))) := Lib.hid fun w' hw' => (hw'.blk HK.out.2.2.1 (by omega)).cell 0 _ rfl
  have KB : Hid (∀ a b : World, Below o a b → Keeps (fun q => o ≤ q) a b) := Lib.hid fun _ _ h => ⟨h.os, h.tape, h.output, h.size, fun k _ hn => h.block k (by omega)⟩
  (refine Pq.wp_region_plan (fun q => o ≤ q) 10 [(true, 1), (true, 2), (true, 3), (true, 4), (false, 0), (false, 5), (false, 6), (false, 7), (false, 8), (false, 9), (false, 10)] (by kernel_rfl) (by kernel_rfl) ?_)
  (refine Pq.plan_head (i := 1) rfl (fun K hK => ?_); refine Pq.plan_plain (.pointer (some ⟨b, 0, none⟩)) (by first | rfl | simp [Region.wanted, yielded]) (fun w' hw' => by go_simp) ?_; go_simp; (with_reducible apply hK); clear hK K)
  (refine Pq.plan_head (i := 2) rfl (fun K hK => ?_); refine Pq.plan_plain (.pointer (some ⟨b, 0, none⟩)) (by first | rfl | simp [Region.wanted, yielded]) (fun w' hw' => by go_simp) ?_; go_simp; (with_reducible apply hK); clear hK K)
  (refine Pq.plan_head (i := 3) rfl (fun K hK => ?_); refine Pq.plan_plain (.pointer (some ⟨b, 0, none⟩)) (by first | rfl | simp [Region.wanted, yielded]) (fun w' hw' => by go_simp) ?_; go_simp; (with_reducible apply hK); clear hK K)
  (refine Pq.plan_head (i := 4) rfl (fun K hK => ?_); refine Pq.plan_plain (.int .u64 (c : Nat)) (by first | rfl | simp [Region.wanted, yielded]) (fun w' hw' => by have e := C0.out _ hw'; go_simp; try simp [e]) ?_; go_simp; (with_reducible apply hK); clear hK K)
  refine Pq.plan_sole (i := 0) rfl (fun w2 h2 Q2 hQ2 => ?_)
  have S2 := Mg.iso_below HK.out.1 h2
  have s2 := Nat.le_trans HK.out.2.2.2.2 (Below.size h2)
  have P2 := Lib.hid (Wob.u32_ok o o [] 0 w2 S2 (by decide) (by decide) s2)
  have B2 : Hid (Below o w1.drew w2) := Lib.hid (Below.mono h2 HK.out.2.2.2.2)
  clear S2 h2
  go_wp2_with (go_at_call 26; refine P2.out.mono ?_; rintro e w3 ⟨⟨O3, hb3⟩, rfl⟩)
  have B3 := Lib.hid (B2.out.trans (hb3))
  have s3 := Nat.le_trans s2 hb3.size
  clear P2 B2 hb3
  refine hQ2 _ _ (KB.out _ _ B3.out) ?_
  clear hQ2 Q2
  refine Pq.plan_sole (i := 5) rfl (fun w4 h4 Q4 hQ4 => ?_)
  have S4 := Mg.iso_below O3 h4
  have s4 := Nat.le_trans s3 (Below.size h4)
  have P4 := Lib.hid (Wob.u64_ok o o _ c w4 S4 (by decide) s4)
  have B4 := Lib.hid (B3.out.trans (Below.mono h4 (by omega)))
  clear S4 h4 O3 B3
  go_wp2_with (go_at_call 69; refine P4.out.mono ?_; rintro e w5 ⟨⟨O5, hb5⟩, rfl⟩)
  have B5 := Lib.hid (B4.out.trans (hb5))
  have s5 := Nat.le_trans s4 hb5.size
  clear P4 B4 hb5
  refine hQ4 _ _ (KB.out _ _ B5.out) ?_
  clear hQ4 Q4
  have OL : IsO o o L w5 := by
    rw [HL.out]
    exact O5
  clear O5
  refine Pq.plan_sole (i := 6) rfl (fun w6 h6 Q6 hQ6 => ?_)
  have S6 := Mg.iso_below OL h6
  have s6 := Nat.le_trans s5 (Below.size h6)
  have P6 := Lib.hid (Wob.obytes_ok o o L w6 S6 (fun e => by have := LL.out; rw [e] at this; cases this) s6)
  have B6 := Lib.hid (B5.out.trans (Below.mono h6 (by omega)))
  clear S6 h6 OL B5
  go_wp2_with (go_at_call 30; refine P6.out.mono ?_; rintro e w7 ⟨rfl, hb7⟩)
  have B7 := Lib.hid (B6.out.trans (hb7))
  have s7 := Nat.le_trans s6 hb7.size
  clear P6 B6 hb7
  refine hQ6 _ _ (KB.out _ _ B7.out) ?_
  clear hQ6 Q6
  refine Pq.plan_sole (i := 7) rfl (fun w8 h8 Q8 hQ8 => ?_)
  have hcv := run_by w8 9 68 5 (by8 L) Tryz.underlying9 Tryz.underlying68 Tryz.underlying5
  have SG := by_sg w8 5 (by8 L) (by rw [hsz]; decide)
  rw [by8_l, hsz] at SG
  have BW := by_below w8 5 (by8 L)
  obtain ⟨g, off, cap, hv, hcap, -, -, hgl, hcell, -⟩ := SG.open (by decide)
  have R2 : Hid ((byWorld w8 5 (by8 L)).rangeAt g off (byv L) ∧ g < (byWorld w8 5 (by8 L)).heap.size) := Lib.hid ⟨fun j v hj => by
    have hl := (List.getElem?_eq_some_iff.1 hj).1
    rw [LL.out] at hl
    rw [(hcell j (by omega)).1]; exact hj, hgl⟩
  have B9 := Lib.hid ((B7.out.trans (Below.mono h8 (by omega))).trans (BW.mono (by have := Below.size h8; omega)))
  rw [hv] at hcv
  clear hcell SG h8 BW B7 hgl
  go_wp2_with fail
  refine hQ8 _ _ (KB.out _ _ B9.out) ?_
  clear hQ8 Q8 hv hcv
  generalize byWorld w8 5 (by8 L) = w9 at *
  refine Pq.plan_sole (i := 8) rfl (fun wa ha Qa hQa => ?_)
  have RA := Lib.hid (And.intro (fun (j : Nat) (v : Value) (hj : (byv L)[j]? = some v) => (show wa.cell? ⟨g, off + j, none⟩ = some v by rw [Below.cell (p := ⟨g, off + j, none⟩) ha R2.out.2]; exact R2.out.1 j v hj)) (Nat.lt_of_lt_of_le R2.out.2 (Below.size ha)))
  have BA := Lib.hid (B9.out.trans (Below.mono ha (by have := B9.out.size; have := HK.out.2.2.2.2; omega)))
  have harr : (Instr.arrayAt 79 (.slice (some ⟨g, off, none⟩) 12 cap)).run Tryz.prog wa = .ok (.pointer (some ⟨g, off, none⟩)) wa := by simp [Instr.arrayAt, run_underlying Tryz.underlying79]
  clear ha B9 R2
  go_wp2_with fail
  refine hQa _ _ (KB.out _ _ BA.out) ?_
  clear hQa Qa harr
  refine Pq.plan_sole (i := 9) rfl (fun wb hb Qb hQb => ?_)
  have RB : wb.rangeAt g off (byv L) := fun j v hj => by rw [Below.cell (p := ⟨g, off + j, none⟩) hb RA.out.2]; exact RA.out.1 j v hj
  have BB := Lib.hid (BA.out.trans (Below.mono hb (by have := BA.out.size; have := HK.out.2.2.2.2; omega)))
  clear hb BA RA
  go_wp2_with (refine wpList_load_mid rfl 79 _ rfl g off rfl (byv L) _ RB Tryz.underlying79 rfl (by rw [LL.out]; exact arr12_size) ?_)
  refine hQb _ _ (KB.out _ _ BB.out) ?_
  clear hQb Qb RB
  refine Pq.plan_last rfl (fun wc hc Qc hQc => ?_)
  have BC := BB.out.trans (Below.mono hc (by have := BB.out.size; have := HK.out.2.2.2.2; omega))
  have RC := HK.out.2.1.below BC (by omega)
  have ONE := byv_one L
  have HF := Lib.hid (And.intro (RC.setRow (byv L)) (below_row (HK.out.2.2.2.1.trans (BC.mono (by omega))) w.heap.size (byv L).toArray (Nat.le_refl _)))
  clear hc BB BC
  refine store_blk (n := 12) (cs := byv L) RC arr12_size LL.out rfl ONE rfl rfl rfl rfl ?_
  go_wp2_with fail
  intro wd hd
  have HD := Lib.hid (And.intro (HF.out.1.below hd HF.out.1.lt) (HF.out.2.trans (Below.mono hd HF.out.2.size)))
  clear HF hd
  go_wp2_with fail
  refine ret_blk rfl HD.out.1 Tryz.underlying79 rfl arr12_size LL.out rfl rfl ?_
  exact ⟨rfl, HD.out.2⟩
end Pt
end Go.Proofs.YtcbkbjpdfanjpaaGreatDoor

namespace Go.Proofs.YtcbkbjpdfanjpaaGreatDoor
open Go.RowKit
set_option maxRecDepth 100000
namespace Wi
abbrev S := List UInt8
abbrev tI : TypeId := 122
abbrev IN (w : World) (b : Nat) (l : S) : Prop := Blk w b tI [.string (by8 l), .nilIface]
theorem of_ok (l : S) (w : World) : Calls Tryz.prog 46 #[.string (by8 l)] w fun e w' => e = .returned (.pointer (some ⟨w.heap.size, 0, none⟩)) ∧ IN w' w.heap.size l ∧ Below w.heap.size w w' := by
  go_enter Tryz.func46, Tryz.ntmps46
  go_wp2_with fail
  go_ret
  exact ⟨rfl, Blk.new w tI [.string (by8 l), .nilIface], below1 _ _⟩
set_option maxHeartbeats 2000000 in
theorem raw_ok (b : Nat) (l : S) (n : Nat) (w : World) (h : IN w b l) (hn : n ≤ l.length) (hl : l.length ≤ 1000000) :
    Calls Tryz.prog 55 #[.pointer (some ⟨b, 0, none⟩), .int .i64 (n : Nat)] w fun e w' => e = .returned (.string (by8 (l.take n))) ∧ IN w' b (l.drop n) ∧ Keeps (fun k => k = b) w w' := by
  have hsz := by8_size l
  have E1 := by8_take l n
  have E2 := by8_drop l n _ rfl
  have c0 := h.cell 0 _ rfl
  have c1 := h.cell 1 _ rfl
  have f0 := h.free 0
  have HS := Lib.hid (h.set 0 (.string (by8 (l.drop n))))
  have HK := Lib.hid ((Keeps.refl (fun k => k = b) w).set b 0 (.string (by8 (l.drop n))) (fun _ => rfl))
  have hn' : n ≤ (by8 l).size := by omega
  unfold IN
  generalize by8 (l.drop n) = D at *
  generalize by8 (l.take n) = T at *
  generalize by8 l = L at *
  have HZ := Lib.hid (And.intro hn hl)
  have HW := Lib.hid h
  clear hn hl h
  go_enter Tryz.func55, Tryz.ntmps55
  go_wp2_with fail
  go_ret
  exact ⟨rfl, HS.out, HK.out⟩
theorem or256 (x y : Nat) (hx : x < 72057594037927936) (hy : y < 256) : bits .or .u64 ((x : Int) * 256) (y : Int) = ((x * 256 + y : Nat) : Int) := by
  have e : x * 256 ||| y = x * 256 + y := by
    have := Nat.two_pow_add_eq_or_of_lt (i := 8) (show y < 2 ^ 8 by omega) x
    rw [show (2 : Nat) ^ 8 = 256 by decide] at this
    rw [Nat.mul_comm x 256, ← this]
  have key : (BitVec.ofInt 64 ((x : Int) * 256) ||| BitVec.ofInt 64 (y : Int)).toNat = x * 256 + y := by
    rw [BitVec.toNat_or, BitVec.toNat_ofInt, BitVec.toNat_ofInt, ← e]
    congr 1 <;> omega
  show IntKind.u64.wrap ((BitVec.ofInt 64 ((x : Int) * 256) ||| BitVec.ofInt 64 (y : Int)).toNat : Nat) = _
  rw [key, IntKind.wrap_u64]
  omega
theorem rdn_next (l : S) (i : Nat) (h : i < l.length) : Ms.rdn (l.take (i + 1)) = Ms.rdn (l.take i) * 256 + (l.getD i 0).toNat := by
  unfold Ms.rdn
  rw [List.take_add_one, List.getElem?_eq_getElem h, List.getD_eq_getElem?_getD, List.getElem?_eq_getElem h, Option.toList_some, List.foldl_append]
  rfl
theorem rdn_lt (l : S) : Ms.rdn l < 256 ^ l.length := by
  have key : ∀ (l : S) (a : Nat), l.foldl (fun a b => a * 256 + b.toNat) a < (a + 1) * 256 ^ l.length := by
    intro l
    induction l with
    | nil => intro a; simp
    | cons c r ih =>
      intro a
      refine Nat.lt_of_lt_of_le (ih (a * 256 + c.toNat)) ?_
      rw [List.length_cons, Nat.pow_succ, Nat.mul_comm (256 ^ r.length) 256, ← Nat.mul_assoc]
      refine Nat.mul_le_mul_right _ ?_
      have := c.toNat_lt
      omega
  have := key l 0
  rw [Nat.zero_add, Nat.one_mul] at this
  exact this
set_option maxHeartbeats 4000000 in
theorem num_ok (b : Nat) (l : S) (K : Nat) (w : World) (h : IN w b l) (hK : K ≤ 4) (hl : K ≤ l.length) (hl2 : l.length ≤ 1000000) :
    Calls Tryz.prog 78 #[.pointer (some ⟨b, 0, none⟩), .int .i64 (K : Nat)] w fun e w' => e = .returned (.int .u64 (Ms.rdn (l.take K) : Nat)) ∧ IN w' b (l.drop K) ∧ Keeps (fun k => k = b) w w' := by
  have P := Lib.hid (raw_ok b l K w h hl hl2)
  obtain ⟨T, hT⟩ : ∃ T, T = l.take K := ⟨_, rfl⟩
  have hTl : T.length = K := by rw [hT, List.length_take]; omega
  rw [← hT] at P ⊢
  have hR : ∀ i, i ≤ K → Ms.rdn (T.take i) < 4294967296 := fun i hi => by
    refine Nat.lt_of_lt_of_le (rdn_lt _) ?_
    refine Nat.le_trans (Nat.pow_le_pow_right (by decide) (show (T.take i).length ≤ 4 by rw [List.length_take]; omega)) ?_
    decide
  have HR := Lib.hid hR
  have HT := Lib.hid hTl
  have hsz : (by8 T).size = K := by rw [by8_size, hTl]
  clear hT hTl hR h hl
  go_enter Tryz.func78, Tryz.ntmps78
  go_upto_region 2 with fail
  go_wp2_with fail
  refine P.out.mono ?_
  rintro e w2 ⟨rfl, h2, hk2⟩
  have hcv := run_by w2 9 68 5 (by8 T) Tryz.underlying9 Tryz.underlying68 Tryz.underlying5
  have SG := by_sg w2 5 (by8 T) (by rw [hsz]; unfold maxLen; omega)
  rw [by8_l, hsz] at SG
  have BW := by_below w2 5 (by8 T)
  have H3 := Lib.hid (And.intro (h2.below BW h2.lt) (hk2.trans (Keeps.of_below (F := fun k => k = b) BW) (fun _ _ e => e)))
  obtain ⟨a3, c3, hv, RS⟩ := Rs.of_sg (F := fun _ => False) SG (fun _ _ e => e)
  rw [hv] at hcv
  have HRS := Lib.hid RS
  clear SG BW P h2 hk2 hv RS
  generalize byWorld w2 5 (by8 T) = w3 at *
  go_upto_region 3 with fail
  go_loop [5, 13] (fun v5 v13 => ∃ i : Nat, v5 = .int .u64 (Ms.rdn (T.take i) : Nat) ∧ v13 = .int .i64 (i : Nat) ∧ i ≤ K) (fun _ v => K - (intOf v).toNat)
  case atStart => exact ⟨0, rfl, rfl, Nat.zero_le _⟩
  case round =>
    obtain ⟨i, rfl, rfl, hi⟩ := hrel
    by_cases hgo : i < K
    · have hx : (byv T)[i]? = some (.int .u8 ((T.getD i 0).toNat : Nat)) := byv_get T i (by rw [HT.out]; exact hgo)
      obtain ⟨g, off, rfl, hg, -, -, hc⟩ := HRS.out.at hx
      have e1 := HR.out i hi
      have hs : Hid (Ms.rdn (T.take (i + 1)) = Ms.rdn (T.take i) * 256 + (T.getD i 0).toNat) := Lib.hid (rdn_next T i (by rw [HT.out]; exact hgo))
      have hy := (T.getD i 0).toNat_lt
      generalize Ms.rdn (T.take i) = x at *
      generalize (T.getD i 0).toNat = y at *
      have e2 := or256 x y (by omega) hy
      go_wp2_with fail
      go_round
      case rel => exact ⟨i + 1, by rw [hs.out, Int.natCast_add, Int.natCast_mul]; rfl, by go_num, by omega⟩
      case measure => simp [intOf]; omega
    · obtain rfl : i = K := by omega
      have hT : T.take i = T := List.take_of_length_le (by rw [HT.out]; exact Nat.le_refl _)
      rw [hT]
      clear hT
      go_wp2_with fail
      go_ret
      exact ⟨rfl, H3.out⟩
set_option maxHeartbeats 1000000 in
theorem byte_ok (b : Nat) (c : UInt8) (l : S) (w : World) (h : IN w b (c :: l)) (hl : (c :: l).length ≤ 1000000) :
    Calls Tryz.prog 50 #[.pointer (some ⟨b, 0, none⟩)] w fun e w' => e = .returned (.int .u8 (c.toNat : Nat)) ∧ IN w' b l ∧ Keeps (fun k => k = b) w w' := by
  have P : Hid (Calls Tryz.prog 78 #[.pointer (some ⟨b, 0, none⟩), .int .i64 1] w fun e w' => e = .returned (.int .u64 (c.toNat : Nat)) ∧ IN w' b l ∧ Keeps (fun k => k = b) w w') := Lib.hid (by
    refine (num_ok b (c :: l) 1 w h (by decide) (by simp) hl).mono ?_
    rintro e w' ⟨rfl, h1, h2⟩
    refine ⟨?_, h1, h2⟩
    simp [Ms.rdn])
  have hc := c.toNat_lt
  clear h hl
  go_enter Tryz.func50, Tryz.ntmps50
  go_wp2_with (go_at_call 78; refine P.out.mono ?_; rintro e w2 ⟨rfl, h2, hk2⟩)
  go_ret
  exact ⟨rfl, h2, hk2⟩
set_option maxHeartbeats 1000000 in
theorem bool_ok (b : Nat) (x : Bool) (l : S) (w : World) (h : IN w b ((if x then 1 else 0) :: l)) (hl : l.length < 1000000) :
    Calls Tryz.prog 52 #[.pointer (some ⟨b, 0, none⟩)] w fun e w' => e = .returned (.bool x) ∧ IN w' b l ∧ Keeps (fun k => k = b) w w' := by
  have P := Lib.hid (byte_ok b _ l w h (by rw [List.length_cons]; omega))
  clear h hl
  cases x
  · go_enter Tryz.func52, Tryz.ntmps52
    go_wp2_with (go_at_call 50; refine P.out.mono ?_; rintro e w2 ⟨rfl, h2, hk2⟩)
    go_ret
    exact ⟨rfl, h2, hk2⟩
  · go_enter Tryz.func52, Tryz.ntmps52
    go_wp2_with (go_at_call 50; refine P.out.mono ?_; rintro e w2 ⟨rfl, h2, hk2⟩)
    go_ret
    exact ⟨rfl, h2, hk2⟩
set_option maxHeartbeats 1000000 in
theorem u32_ok (b n : Nat) (l : S) (w : World) (h : IN w b (Ms.be4 n ++ l)) (hn : n < 4294967296) (hl : l.length < 999990) :
    Calls Tryz.prog 47 #[.pointer (some ⟨b, 0, none⟩)] w fun e w' => e = .returned (.int .u32 (n : Nat)) ∧ IN w' b l ∧ Keeps (fun k => k = b) w w' := by
  have hlen : (Ms.be4 n ++ l).length = 4 + l.length := by rw [List.length_append, Ms.be4_len]
  have P : Hid (Calls Tryz.prog 78 #[.pointer (some ⟨b, 0, none⟩), .int .i64 4] w fun e w' => e = .returned (.int .u64 (n : Nat)) ∧ IN w' b l ∧ Keeps (fun k => k = b) w w') := Lib.hid (by
    refine (num_ok b (Ms.be4 n ++ l) 4 w h (by decide) (by omega) (by omega)).mono ?_
    rintro e w' ⟨rfl, h1, h2⟩
    rw [List.take_left' (Ms.be4_len n), Ms.rdn_be4 n hn]
    rw [List.drop_left' (Ms.be4_len n)] at h1
    exact ⟨rfl, h1, h2⟩)
  clear h hl hlen
  go_enter Tryz.func47, Tryz.ntmps47
  go_wp2_with (go_at_call 78; refine P.out.mono ?_; rintro e w2 ⟨rfl, h2, hk2⟩)
  go_ret
  exact ⟨rfl, h2, hk2⟩
set_option maxHeartbeats 1000000 in
theorem text_ok (b : Nat) (x l : S) (m : Nat) (w : World) (h : IN w b (Ms.tx x ++ l)) (hx : x.length ≤ m) (hm : m ≤ 100000) (hl : l.length < 800000) :
    Calls Tryz.prog 53 #[.pointer (some ⟨b, 0, none⟩), .int .i64 (m : Nat)] w fun e w' => e = .returned (.string (by8 x)) ∧ IN w' b l ∧ Keeps (fun k => k = b) w w' := by
  have P := Lib.hid (u32_ok b x.length (x ++ l) w (by unfold Ms.tx at h; rwa [List.append_assoc] at h) (by omega) (by rw [List.length_append]; omega))
  have Q : Hid (∀ w2, IN w2 b (x ++ l) → Calls Tryz.prog 55 #[.pointer (some ⟨b, 0, none⟩), .int .i64 (x.length : Nat)] w2 fun e w' => e = .returned (.string (by8 x)) ∧ IN w' b l ∧ Keeps (fun k => k = b) w2 w') := Lib.hid fun w2 h2 => by
    have := raw_ok b (x ++ l) x.length w2 h2 (by rw [List.length_append]; omega) (by rw [List.length_append]; omega)
    rwa [List.take_left' rfl, List.drop_left' rfl] at this
  generalize x.length = n at *
  clear h hl
  go_enter Tryz.func53, Tryz.ntmps53
  go_upto_region 2 with (go_at_call 47; refine P.out.mono ?_; rintro e w2 ⟨rfl, h2, hk2⟩)
  have c1 := h2.cell 1 _ rfl
  have H2 := Lib.hid (And.intro h2 hk2)
  clear h2 hk2
  go_wp2_with (go_at_call 55; refine (Q.out _ H2.out.1).mono ?_; rintro e w3 ⟨rfl, h3, hk3⟩)
  go_ret
  exact ⟨rfl, h3, H2.out.2.trans hk3 (fun _ _ e => e)⟩
theorem left_ok (b : Nat) (l : S) (w : World) (h : IN w b l) :
    Calls Tryz.prog 56 #[.pointer (some ⟨b, 0, none⟩)] w fun e w' => e = .returned (.int .i64 (l.length : Nat)) ∧ w = w' := by
  have hsz := by8_size l
  have c0 := h.cell 0 _ rfl
  rw [← hsz]
  clear h hsz
  go_enter Tryz.func56, Tryz.ntmps56
  go_wp2_with fail
  go_ret
  exact ⟨rfl, rfl⟩
theorem err_ok (b : Nat) (l : S) (w : World) (h : IN w b l) :
    Calls Tryz.prog 51 #[.pointer (some ⟨b, 0, none⟩)] w fun e w' => e = .returned .nilIface ∧ w = w' := by
  have c1 := h.cell 1 _ rfl
  clear h
  go_enter Tryz.func51, Tryz.ntmps51
  go_wp2_with fail
  go_ret
  exact ⟨rfl, rfl⟩
theorem end_ok (b : Nat) (w : World) (h : IN w b []) :
    Calls Tryz.prog 57 #[.pointer (some ⟨b, 0, none⟩)] w fun e w' => e = .returned .nilIface ∧ w = w' := by
  have c0 := h.cell 0 _ rfl
  have c1 := h.cell 1 _ rfl
  have he := by8_empty []
  clear h
  go_enter Tryz.func57, Tryz.ntmps57
  go_wp2_with fail
  go_ret
  exact ⟨rfl, rfl⟩
end Wi
end Go.Proofs.YtcbkbjpdfanjpaaGreatDoor
