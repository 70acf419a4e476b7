/-
The walk of New.
-/
import Derived.Test.YteleedcpepifjaaDoorAesC
import Derived.Test.YteleedcpepifjaaDoorPlanL
import Derived.Deep.CutBlock
namespace Go.Proofs.YteleedcpepifjaaDoor
open Go.RowKit AesP
set_option maxRecDepth 100000
def sbF (x : Nat) : Nat := sbT.getD x 0
theorem sbF_lt (x : Nat) (hx : x < 256) : sbF x < 256 := by unfold sbF; rw [sb_at hx]; exact sub_lt hx
/-- the key's words so far, and the next constant -/
def KS (n : Nat) (key : List Nat) (i : Nat) : List Nat × Nat := if i < n then (key.take (4 * i), 1) else kexp sbF n key (i - n)
theorem KS_lo {n : Nat} {key : List Nat} {i : Nat} (hl : key.length = 4 * n) (h : i ≤ n) : KS n key i = (key.take (4 * i), 1) := by
  unfold KS
  split
  · rfl
  · have e : i = n := by omega
    subst e
    rw [Nat.sub_self, List.take_of_length_le (by omega)]
    rfl
theorem KS_hi {n : Nat} {key : List Nat} {i : Nat} (h : n ≤ i) : KS n key i = kexp sbF n key (i - n) := by unfold KS; rw [if_neg (by omega)]
theorem KS_step {n : Nat} {key : List Nat} {i : Nat} (h : n ≤ i) : KS n key (i + 1) = kstep sbF n i (KS n key i) := by
  rw [KS_hi h, KS_hi (Nat.le_succ_of_le h), show i + 1 - n = (i - n) + 1 by omega]
  show kstep sbF n (n + (i - n)) _ = _
  rw [show n + (i - n) = i by omega]
theorem KS_len {n : Nat} {key : List Nat} (hl : key.length = 4 * n) (i : Nat) : (KS n key i).1.length = 4 * i := by
  unfold KS
  split
  · show (key.take (4 * i)).length = _
    rw [List.length_take]; omega
  · rw [kexp_len]; omega
theorem KS_by {n : Nat} {key : List Nat} (hk : By key) (i : Nat) : By (KS n key i).1 ∧ (KS n key i).2 < 256 := by
  unfold KS
  split
  · exact ⟨fun x hx => hk x (List.mem_of_mem_take hx), by show (1 : Nat) < 256; omega⟩
  · exact kexp_by sbF_lt n hk _
theorem quad_take (l : List Nat) (a : Nat) (h : a + 4 ≤ l.length) : l.take a ++ quad l a = l.take (a + 4) := by
  unfold quad
  rw [← take_next (i := a + 3) (by omega), ← take_next (i := a + 2) (by omega), ← take_next (i := a + 1) (by omega), ← take_next (i := a) (by omega)]
  simp
theorem natL_extract (s : ByteArray) (a : Nat) (h : a + 4 ≤ s.size) : natL (s.extract a (a + 4)) = quad (natL s) a := by
  have e : natL (s.extract a (a + 4)) = ((natL s).take (a + 4)).drop a := by
    unfold natL
    rw [← List.map_take, ← List.map_drop]
    congr 1
    simp [ByteArray.data_extract, Array.toList_extract]
    rw [List.drop_take, show a + 4 - a = 4 by omega]
  rw [e, ← quad_take _ _ (by rw [natL_len]; exact h), List.drop_append_of_le_length (by rw [List.length_take, natL_len]; omega), List.drop_of_length_le (by rw [List.length_take, natL_len]; omega)]
  rfl
theorem wordI : ∃ i, Tryd.prog.info? 50 = some i ∧ i.zero = some (.agg #[.int .u8 0, .int .u8 0, .int .u8 0, .int .u8 0]) ∧ i.size = 4 ∧ i.bytes = 4 := by
  have h : (Tryd.prog.info? 50).map (fun i => (i.zero, i.size, i.bytes)) = some (some (.agg #[.int .u8 0, .int .u8 0, .int .u8 0, .int .u8 0]), 4, 4) := by kernel_rfl
  cases hi : Tryd.prog.info? 50 with
  | none => rw [hi] at h; cases h
  | some i =>
    rw [hi] at h
    simp only [Option.map_some, Option.some.injEq, Prod.mk.injEq] at h
    exact ⟨i, rfl, h.1, h.2.1, h.2.2⟩
theorem lit_w (w : World) (t : TypeId) (a b c d : Nat) : Sg (w.alloc (.cells #[.int .u8 (a : Nat), .int .u8 (b : Nat), .int .u8 (c : Nat), .int .u8 (d : Nat)] t)) 4 (.slice (some ⟨w.heap.size, 0, none⟩) 1 1) 1 (b8 [a, b, c, d]) := by
  have hb : Blk (w.alloc (.cells #[.int .u8 (a : Nat), .int .u8 (b : Nat), .int .u8 (c : Nat), .int .u8 (d : Nat)] t)) w.heap.size t (b8 [a, b, c, d]) := Blk.new w t (b8 [a, b, c, d])
  refine ⟨rfl, _, 1, rfl, Nat.le_refl _, by decide, .inr ⟨w.heap.size, 0, rfl, hb.lt, fun j hj => ?_, fun j hj => ?_⟩⟩
  · have hj4 : j < 4 := hj
    rw [Nat.zero_add, hb.cell j _ (b8_get [a, b, c, d] j hj4)]
    exact ⟨rfl, hb.free _⟩
  · have hj4 : j < 4 := hj
    rw [Nat.zero_add, hb.cell j _ (b8_get [a, b, c, d] j hj4), b8_get [a, b, c, d] j hj4]
/-- the cipher as it grows -/
structure Nw (w wr : World) (c t : Nat) (vw : Value) (i : Nat) (L : List Nat) : Prop where
  blk : Blk wr c 48 [.pointer (some ⟨t, 0, none⟩), vw]
  tab : Tab wr t
  sg : Sg wr 4 vw i (b8 L)
  own : ∀ q, vblk vw = some q → w.heap.size ≤ q ∧ q ≠ c ∧ q ≠ t
  bel : Below w.heap.size w wr
theorem Nw.below {w wr wx : World} {c t i : Nat} {vw : Value} {L : List Nat} (h : Nw w wr c t vw i L) (hb : Below wr.heap.size wr wx) : Nw w wx c t vw i L :=
  ⟨h.blk.below hb h.blk.lt, Blk.below h.tab hb (Blk.lt h.tab), h.sg.below hb, h.own, h.bel.trans (hb.mono h.bel.size)⟩
/-- a word more: appended in wy, laid into the cipher -/
theorem Nw.grow {w wr wx wy wz : World} {c t i : Nat} {vw v' : Value} {L m : List Nat} (h : Nw w wr c t vw i L) (hb : Below wr.heap.size wr wx) (hs : Sg wy 4 v' (i + 1) (b8 L ++ b8 m)) (hv : ∀ q, vblk v' = some q → vblk vw = some q ∨ wx.heap.size ≤ q)
    (hk : Keeps (fun k => vblk vw = some k) wx wy) (hz : Below wy.heap.size wy wz) (hc : w.heap.size ≤ c) (hct : t ≠ c) : Nw w (wz.setCell ⟨c, 1, none⟩ v') c t v' (i + 1) (L ++ m) := by
  have hx := h.below hb
  have ht := Blk.lt h.tab
  have hcl := h.blk.lt
  have B1 : Blk wy c 48 [.pointer (some ⟨t, 0, none⟩), vw] := hk.blk hx.blk (fun e => (h.own c e).2.1 rfl)
  have B2 := (B1.below hz B1.lt).set 1 v'
  have T1 : Tab wy t := hk.blk hx.tab (fun e => (h.own t e).2.2 rfl)
  have T2 : Tab wz t := Blk.below T1 hz (Blk.lt T1)
  have hv2 : ∀ q, vblk v' = some q → w.heap.size ≤ q ∧ q ≠ c ∧ q ≠ t := fun q hq => by
    rcases hv q hq with e | e
    · exact h.own q e
    · have e1 := hb.size
      have e2 := h.bel.size
      omega
  have KZ : Keeps (fun k => k = c) wz (wz.setCell ⟨c, 1, none⟩ v') := (Keeps.refl _ wz).set c 1 v' (fun _ => rfl)
  exact ⟨B2, KZ.blk T2 (fun e => hct e), by rw [b8_app]; exact (hs.below hz).keeps KZ (fun q hq e => (hv2 q hq).2.1 e), hv2,
    below_set' ((hx.bel.trans (hk.below hx.bel.size (fun k hk' e => by have := (h.own k e).1; omega))).trans (hz.mono (Nat.le_trans hx.bel.size hk.size))) c 1 v' hc⟩
theorem Nw.keep {w wr wx : World} {c t i : Nat} {vw : Value} {L : List Nat} {F : Nat → Prop} (h : Nw w wr c t vw i L) (hk : Keeps F wr wx) (hc : ¬ F c) (ht : ¬ F t) (hv : ∀ q, vblk vw = some q → ¬ F q) (hF : ∀ k, k < w.heap.size → ¬ F k) : Nw w wx c t vw i L :=
  ⟨hk.blk h.blk hc, hk.blk h.tab ht, h.sg.keeps hk hv, h.own, h.bel.trans (hk.below h.bel.size hF)⟩
theorem keeps_row (w : World) (b : Nat) (cs : Array Value) : Keeps (fun k => k = b) w (w.setRow b cs) :=
  ⟨rfl, rfl, rfl, by simp, fun i _ hn => setRow_other _ _ _ _ (fun e => hn e)⟩
/-- the cipher, and the round's word -/
def TP (w wx : World) (c t : Nat) (vw : Value) (i : Nat) (L : List Nat) (t8 : Nat) (u : List Nat) : Prop := Nw w wx c t vw i L ∧ Blk wx t8 50 (b8 u)
theorem TP.below {w wr wx : World} {c t i t8 : Nat} {vw : Value} {L u : List Nat} (h : TP w wr c t vw i L t8 u) (hb : Below wr.heap.size wr wx) : TP w wx c t vw i L t8 u := ⟨h.1.below hb, h.2.below hb h.2.lt⟩
theorem TP.row {w wx : World} {c t i t8 : Nat} {vw : Value} {L u : List Nat} (h : TP w wx c t vw i L t8 u) (hv : ∀ q, vblk vw = some q → q ≠ t8) (hc : t8 ≠ c) (ht : t8 ≠ t) (ho : w.heap.size ≤ t8) (u' : List Nat) : TP w (wx.setRow t8 (b8 u').toArray) c t vw i L t8 u' :=
  ⟨h.1.keep (keeps_row wx t8 _) (fun e => hc e.symm) (fun e => ht e.symm) (fun q hq e => hv q hq e) (fun k hk e => by omega), h.2.setRow _⟩
theorem TP.cell {w wx : World} {c t i t8 : Nat} {vw : Value} {L u : List Nat} (h : TP w wx c t vw i L t8 u) (hv : ∀ q, vblk vw = some q → q ≠ t8) (hc : t8 ≠ c) (ht : t8 ≠ t) (ho : w.heap.size ≤ t8) (k x : Nat) : TP w (wx.setCell ⟨t8, k, none⟩ (.int .u8 (x : Nat))) c t vw i L t8 (u.set k x) :=
  ⟨h.1.keep ((Keeps.refl (fun q => q = t8) wx).set t8 k _ (fun _ => rfl)) (fun e => hc e.symm) (fun e => ht e.symm) (fun q hq e => hv q hq e) (fun k hk e => by omega), h.2.b8set k x⟩
/-- what the choice of a round leaves -/
def PickP (w wx : World) (c t g off cap i n : Nat) (L : List Nat) (e t8 : Nat) (v6 : Value) : Prop :=
  ∃ (c6 : Nat) (u : List Nat), v6 = .int .u8 c6 ∧ u.length = 4 ∧ By u ∧ c6 < 256 ∧ kstep sbF n i (L, e) = (L ++ ml 4 fun k => u.getD k 0 ^^^ L.getD (4 * i - 4 * n + k) 0, c6) ∧ Blk wx t8 50 (b8 u) ∧
    Nw w wx c t (.slice (some ⟨g, off, none⟩) i cap) i L
set_option maxHeartbeats 8000000 in
theorem new_ok (key : ByteArray) (n : Nat) (hn : n = 4 ∨ n = 6 ∨ n = 8) (hs : key.size = 4 * n) (w : World) :
    Calls Tryd.prog 9 #[.string key] w fun e w' => ∃ c t bw o cap, e = .returned (.tuple #[.pointer (some ⟨c, 0, none⟩), .nilIface]) ∧ Ci w' c t bw o (4 * (n + 7)) cap (kexp subN n (natL key) (3 * n + 28)).1 ∧ Below w.heap.size w w' := by
  obtain ⟨j0, hj, hj0, hj1, hj2⟩ := wordI
  have J := Lib.hid hj
  have J0 := Lib.hid hj0
  have J1 := Lib.hid hj1
  have J2 := Lib.hid hj2
  clear hj hj0 hj1 hj2
  go_enter Tryd.func9, Tryd.ntmps9
  go_upto_region 2 with fail
  have HN := Lib.hid hn
  have HS := Lib.hid hs
  go_upto_if 15 with fail
  go_cut [15, 16, 17, 18] (fun v _ _ _ wx => v = .bool true ∧ w = wx)
  case first =>
    rcases Nat.lt_or_ge n 5 with h5 | h5
    · have d : ((4 * (n : Int) == 16) : Bool) = true := by rw [beq_iff_eq]; omega
      go_wp2_with fail
      go_meet
      exact ⟨congrArg Value.bool d, rfl⟩
    · have d : ((4 * (n : Int) == 16) : Bool) = false := by rw [beq_eq_false_iff_ne]; omega
      rcases Nat.lt_or_ge n 7 with h7 | h7
      · have d2 : ((4 * (n : Int) == 24) : Bool) = true := by rw [beq_iff_eq]; omega
        go_wp2_with fail
        go_meet
        exact ⟨rfl, rfl⟩
      · have d2 : ((4 * (n : Int) == 24) : Bool) = false := by rw [beq_eq_false_iff_ne]; omega
        have d3 : ((4 * (n : Int) == 32) : Bool) = true := by rw [beq_iff_eq]; omega
        go_wp2_with fail
        go_meet
        exact ⟨rfl, rfl⟩
  case rest =>
    obtain ⟨rfl, rfl⟩ := hcut
    clear hs hn
    go_upto_region 8 with (go_at_call 19; refine (lay_ok _).mono ?_; rintro e w1 ⟨t, rfl, ht, hT, hB1⟩)
    have hB2 := below1 w1 (.cells #[.pointer (some ⟨t, 0, none⟩), .slice none 0 0] 48)
    have hkl : (natL key).length = 4 * n := by rw [natL_len, HS.out]
    have HKL := Lib.hid hkl
    have htw : t < w1.heap.size := hT.lt
    have hB1s := hB1.size
    have H0 : Hid (Nw w (w1.alloc (.cells #[.pointer (some ⟨t, 0, none⟩), .slice none 0 0] 48)) w1.heap.size t (.slice none 0 0) 0 (KS n (natL key) 0).1) :=
      Lib.hid ⟨Blk.new w1 _ [.pointer (some ⟨t, 0, none⟩), .slice none 0 0], Blk.below hT hB2 hT.lt, by rw [KS_lo hkl (Nat.zero_le _)]; exact Sg.nil _ _, fun q hq => by simp [vblk] at hq, hB1.trans (hB2.mono hB1.size)⟩
    obtain ⟨c, hc⟩ : ∃ c, c = w1.heap.size := ⟨_, rfl⟩
    rw [← hc] at H0
    have hct : t ≠ c := by omega
    have hcw : w.heap.size ≤ c := by omega
    rw [show (Value.pointer (some ⟨w1.heap.size, 0, none⟩)) = .pointer (some ⟨c, 0, none⟩) by rw [hc]]
    have HCT := Lib.hid hct
    clear hB2 hkl htw hB1s hc hct ht hT hB1
    have hn4 : 4 ≤ n ∧ n ≤ 8 := by have := HN.out; omega
    go_upto_region 10 with fail
    go_loopw [6, 25] (fun v6 v25 wx => ∃ (i : Nat) (vw : Value), v6 = .int .u8 ((KS n (natL key) i).2 : Nat) ∧ v25 = .int .i64 i ∧ i ≤ 4 * (n + 7) ∧ Hid (Nw w wx c t vw i (KS n (natL key) i).1)) (fun _ v _ => 100 - (intOf v).toNat)
    case atStart => exact ⟨0, .slice none 0 0, by rw [KS_lo HKL.out (Nat.zero_le _)]; rfl, rfl, by omega, H0⟩
    case round =>
      obtain ⟨i, vw, rfl, rfl, hi, hq⟩ := hrel
      clear H0
      have HB := Lib.hid (KS_by (n := n) (natL_by key) i)
      have HL := Lib.hid (KS_len HKL.out i)
      have HST : Hid (n ≤ i → KS n (natL key) (i + 1) = kstep sbF n i (KS n (natL key) i)) := Lib.hid (fun h => KS_step h)
      have HLO : Hid (i ≤ n → KS n (natL key) i = ((natL key).take (4 * i), 1)) := Lib.hid (fun h => KS_lo HKL.out h)
      have HEX : Hid (∀ q, q = i → KS n (natL key) q = KS n (natL key) i) := Lib.hid (fun q e => by rw [e])
      generalize KS n (natL key) i = X at *
      obtain ⟨L, e⟩ := X
      dsimp only at HB HL hq ⊢
      rcases Nat.lt_or_ge i (4 * (n + 7)) with h | h
      · go_upto_region 11 with fail
        rcases Nat.lt_or_ge i n with hin | hin
        · have he : L = (natL key).take (4 * i) ∧ e = 1 := by have := HLO.out (by omega); simpa using this
          have HE := Lib.hid he
          clear he
          obtain ⟨S, hS⟩ : ∃ S, S = key.extract (4 * i) (4 * i + 4) := ⟨_, rfl⟩
          have hSn : natL S = quad (natL key) (4 * i) := by rw [hS]; exact natL_extract key (4 * i) (by rw [HS.out]; omega)
          have hSl : S.size = 4 := by rw [← natL_len, hSn]; rfl
          have HSX := Lib.hid hS.symm
          have HSN := Lib.hid hSn
          have HSL := Lib.hid hSl
          clear hS hSn hSl
          have hks : 4 * i + 4 ≤ key.size := by rw [HS.out]; omega
          have C1 : Hid (∀ w', Keeps (fun q => vblk vw = some q) wr.drew w' → w'.cell? ⟨c, 1, none⟩ = some vw) := Lib.hid fun w' hw' => (hw'.blk (hq.out.below (below_drewN (Below.refl wr.heap.size wr) 1)).blk (fun e => (hq.out.own c e).2.1 rfl)).cell 1 _ rfl
          go_upto_region 13 with fail
          (refine Pq.wp_region_plan (fun q => vblk vw = some q) 19 [(true, 0), (true, 1), (true, 2), (true, 3), (true, 4), (true, 5), (true, 6), (true, 7), (true, 8), (true, 9), (true, 10), (true, 11), (false, 12), (false, 13), (false, 14), (false, 15), (false, 16), (false, 17), (false, 18), (false, 19)] (by kernel_rfl) (by kernel_rfl) ?_)
          (refine Pq.plan_head (i := 0) rfl (fun K hK => ?_); refine Pq.plan_plain (.pointer (some ⟨c, 0, none⟩)) (by first | rfl | simp [Region.wanted, yielded]) (fun w' hw' => by go_simp) ?_; go_simp; (with_reducible apply hK); clear hK K)
          (refine Pq.plan_head (i := 1) rfl (fun K hK => ?_); refine Pq.plan_plain (.pointer (some ⟨c, 0, none⟩)) (by first | rfl | simp [Region.wanted, yielded]) (fun w' hw' => by go_simp) ?_; go_simp; (with_reducible apply hK); clear hK K)
          (refine Pq.plan_head (i := 2) rfl (fun K hK => ?_); refine Pq.plan_plain (.pointer (some ⟨c, 0, none⟩)) (by first | rfl | simp [Region.wanted, yielded]) (fun w' hw' => by go_simp) ?_; go_simp; (with_reducible apply hK); clear hK K)
          (refine Pq.plan_head (i := 3) rfl (fun K hK => ?_); refine Pq.plan_plain (.pointer (some ⟨c, 1, none⟩)) (by first | rfl | simp [Region.wanted, yielded]) (fun w' hw' => by go_simp) ?_; go_simp; (with_reducible apply hK); clear hK K)
          (refine Pq.plan_head (i := 4) rfl (fun K hK => ?_); refine Pq.plan_plain (vw) (by first | rfl | simp [Region.wanted, yielded]) (fun w' hw' => by have e := C1.out _ hw'; go_simp; try simp [e]) ?_; go_simp; (with_reducible apply hK); clear hK K)
          (refine Pq.plan_head (i := 5) rfl (fun K hK => ?_); refine Pq.plan_plain (.string key) (by first | rfl | simp [Region.wanted, yielded]) (fun w' hw' => by go_simp) ?_; go_simp; (with_reducible apply hK); clear hK K)
          (refine Pq.plan_head (i := 6) rfl (fun K hK => ?_); refine Pq.plan_plain (.int .i64 (i : Nat)) (by first | rfl | simp [Region.wanted, yielded]) (fun w' hw' => by go_simp) ?_; go_simp; (with_reducible apply hK); clear hK K)
          (refine Pq.plan_head (i := 7) rfl (fun K hK => ?_); refine Pq.plan_plain (.int .i64 (4 * (i : Int))) (by first | rfl | simp [Region.wanted, yielded]) (fun w' hw' => by go_simp; rw [IntKind.wrap_i64]; omega) ?_; go_simp; (with_reducible apply hK); clear hK K)
          (refine Pq.plan_head (i := 8) rfl (fun K hK => ?_); refine Pq.plan_plain (.int .i64 (i : Nat)) (by first | rfl | simp [Region.wanted, yielded]) (fun w' hw' => by go_simp) ?_; go_simp; (with_reducible apply hK); clear hK K)
          (refine Pq.plan_head (i := 9) rfl (fun K hK => ?_); refine Pq.plan_plain (.int .i64 (4 * (i : Int))) (by first | rfl | simp [Region.wanted, yielded]) (fun w' hw' => by go_simp; rw [IntKind.wrap_i64]; omega) ?_; go_simp; (with_reducible apply hK); clear hK K)
          (refine Pq.plan_head (i := 10) rfl (fun K hK => ?_); refine Pq.plan_plain (.int .i64 (4 * (i : Int) + 4)) (by first | rfl | simp [Region.wanted, yielded]) (fun w' hw' => by go_simp; rw [IntKind.wrap_i64]; omega) ?_; go_simp; (with_reducible apply hK); clear hK K)
          (refine Pq.plan_head (i := 11) rfl (fun K hK => ?_); refine Pq.plan_plain (.string S) (by first | rfl | simp [Region.wanted, yielded]) (fun w' hw' => by have e := HSX.out; go_simp; rw [if_pos (by omega), if_pos (by omega), show (4 * (i : Int)).toNat = 4 * i by omega, show (4 * (i : Int) + 4).toNat = 4 * i + 4 by omega, e]) ?_; go_simp; (with_reducible apply hK); clear hK K)
          refine Pq.plan_sole (i := 12) rfl (fun w2 h2 Q2 hQ2 => ?_)
          have hcv := run_by w2 9 34 5 S Tryd.underlying9 Tryd.underlying34 Tryd.underlying5
          have SG := by_sg w2 5 S (by rw [HSL.out]; decide)
          rw [byv_natL, HSL.out, HSN.out] at SG
          have BW := by_below w2 5 S
          obtain ⟨q0, q1, q2, q3, hWd⟩ := quad_split (natL key) (4 * i)
          rw [hWd] at SG HSN
          have HWD := Lib.hid hWd
          clear hWd
          obtain ⟨g, off, cap, hv, hcap, -, -, -, hcell, -⟩ := SG.open (by decide)
          have R2 : Hid ((byWorld w2 5 S).rangeAt g off (b8 [q0, q1, q2, q3])) := Lib.hid fun j v hj => by
            have hl := (List.getElem?_eq_some_iff.1 hj).1
            have hl4 : j < 4 := hl
            rw [(hcell j (by omega)).1]; exact hj
          have K2 := Lib.hid ((((Keeps.refl (fun q => vblk vw = some q) wr.drew).rw h2).rw BW))
          have B2 := Lib.hid (Rw.trans (Rw.trans (show Rw wr wr.drew from below_drewN (Below.refl wr.heap.size wr) 1) h2) BW)
          clear hcell SG
          go_wp2_with fail
          clear hv hcv BW
          refine hQ2 _ _ K2.out ?_
          clear hQ2 Q2
          generalize byWorld w2 5 S = w3 at *
          refine Pq.plan_sole (i := 13) rfl (fun w4 h4 Q4 hQ4 => ?_)
          have K4 := Lib.hid (K2.out.rw h4)
          have B4 := Lib.hid (Rw.trans B2.out h4)
          have R4 : Hid (w4.rangeAt g off (b8 [q0, q1, q2, q3])) := Lib.hid fun j v hj => (h4.cell (cell_lt8 (R2.out j v hj))).trans (R2.out j v hj)
          clear K2 B2 R2 h4 h2
          have harr : (Instr.arrayAt 50 (.slice (some ⟨g, off, none⟩) 4 cap)).run Tryd.prog w4 = .ok (.pointer (some ⟨g, off, none⟩)) w4 := by simp [Instr.arrayAt, run_underlying Tryd.underlying50]
          go_wp2_with fail
          refine hQ4 _ _ K4.out ?_
          clear hQ4 Q4
          refine Pq.plan_sole (i := 14) rfl (fun w5 h5 Q5 hQ5 => ?_)
          have K5 := Lib.hid (K4.out.rw h5)
          have B5 := Lib.hid (Rw.trans B4.out h5)
          have R5 : Hid (w5.rangeAt g off (b8 [q0, q1, q2, q3])) := Lib.hid fun j v hj => (h5.cell (cell_lt8 (R4.out j v hj))).trans (R4.out j v hj)
          clear K4 B4 R4 h5
          go_wp2_with (refine wpList_load_mid rfl 50 _ rfl g off rfl (b8 [q0, q1, q2, q3]) _ R5.out Tryd.underlying50 rfl word_size ?_)
          refine hQ5 _ _ K5.out ?_
          clear hQ5 Q5
          refine Pq.plan_sole (i := 15) rfl (fun w6 h6 Q6 hQ6 => ?_)
          have K6 := Lib.hid ((K5.out.rw h6).alloc (.cells #[.int .u8 (q0 : Nat), .int .u8 (q1 : Nat), .int .u8 (q2 : Nat), .int .u8 (q3 : Nat)] 50))
          have B6 := Lib.hid (Rw.trans (Rw.trans B5.out h6) (below1 w6 (.cells #[.int .u8 (q0 : Nat), .int .u8 (q1 : Nat), .int .u8 (q2 : Nat), .int .u8 (q3 : Nat)] 50)))
          have L6 := Lib.hid (lit_w w6 50 q0 q1 q2 q3)
          clear K5 B5 R5 h6
          rw [show (b8 [q0, q1, q2, q3]).toArray = #[.int .u8 (q0 : Nat), .int .u8 (q1 : Nat), .int .u8 (q2 : Nat), .int .u8 (q3 : Nat)] from rfl]
          go_wp2_with fail
          refine hQ6 _ _ K6.out ?_
          clear hQ6 Q6
          generalize hw7 : w6.alloc _ = w7 at *
          clear hw7
          refine Pq.plan_sole (i := 16) rfl (fun w8 h8 Q8 hQ8 => ?_)
          have B8 := Lib.hid (Rw.trans B6.out h8)
          have K8 := Lib.hid (K6.out.rw h8)
          have SV := Lib.hid (hq.out.below B8.out).sg
          have SL := Lib.hid (L6.out.below h8)
          have hi60 : i < 60 := by omega
          have b1 : i + 1 ≤ maxLen := by unfold maxLen; omega
          have b2 : (i + 1) * 4 ≤ 140737488355328 := by omega
          have HBB := Lib.hid (And.intro b1 b2)
          clear b1 b2 K6 B6 L6 h8
          go_simp
          refine wpList_append_any _ rfl (.tmp 35) (.tmp 46) 46 rfl 50 j0 (.agg #[.int .u8 0, .int .u8 0, .int .u8 0, .int .u8 0]) 4 4 Tryd.underlying46 J.out J0.out J1.out J2.out rfl (by decide) vw i _ rfl SV.out (.slice (some ⟨w6.heap.size, 0, none⟩) 1 1) 1 _ rfl SL.out (b8_one _) HBB.out.1 HBB.out.2 ?grow
          case grow =>
            intro v' w9 hs9 hv9 hk9
            obtain ⟨ao', cp', hv'⟩ : ∃ ao cp, v' = .slice ao (i + 1) cp := let ⟨_, ao, cp, h, _⟩ := hs9; ⟨ao, cp, h⟩
            subst hv'
            have K9 := Lib.hid (K8.out.trans hk9 (fun q _ hq => hq))
            have HG : Hid (∀ wz, Rw w9 wz → Nw w (wz.setCell ⟨c, 1, none⟩ (.slice ao' (i + 1) cp')) c t (.slice ao' (i + 1) cp') (i + 1) (L ++ [q0, q1, q2, q3])) := Lib.hid (fun wz hz => hq.out.grow B8.out hs9 hv9 hk9 hz hcw HCT.out)
            have CC : Hid (∀ wz, Rw w9 wz → wz.cell? ⟨c, 1, none⟩ = some vw ∧ wz.frozen? ⟨c, 1, none⟩ = false) := Lib.hid (fun wz hz => by
              have B := (hk9.blk (hq.out.below B8.out).blk (fun e => (hq.out.own c e).2.1 rfl)).below hz (hk9.blk (hq.out.below B8.out).blk (fun e => (hq.out.own c e).2.1 rfl)).lt
              exact ⟨B.cell 1 _ rfl, B.free 1⟩)
            clear hs9 hv9 hk9 hq SV SL K8 B8 C1
            go_wp2_with fail
            refine hQ8 _ _ K9.out ?_
            clear hQ8 Q8
            have R9 : Hid (Rw w9 w9) := Lib.hid (Rw.refl w9)
            refine Pq.plan_sole (i := 17) rfl (fun wa ha Qa hQa => ?_)
            have RA := Lib.hid (Rw.trans R9.out ha)
            have KA := Lib.hid (K9.out.rw ha)
            clear K9 R9 ha
            go_wp2_with fail
            refine hQa _ _ KA.out ?_
            clear hQa Qa
            refine Pq.plan_sole (i := 18) rfl (fun wb hb Qb hQb => ?_)
            have RB := Lib.hid (Rw.trans RA.out hb)
            have KB := Lib.hid (KA.out.rw hb)
            clear KA RA hb
            go_wp2_with fail
            refine hQb _ _ KB.out ?_
            clear hQb Qb KB
            refine Pq.plan_last rfl (fun wc hc Qc hQc => ?_)
            have RC := Rw.trans RB.out hc
            have cc := (CC.out wc RC).1
            have cf := (CC.out wc RC).2
            have HH := Lib.hid (HG.out wc RC)
            clear RB hc RC HG CC
            go_wp2_with fail
            intro wd hd
            have HD := Lib.hid (HH.out.below hd)
            clear HH cc cf hd
            have hKS : KS n (natL key) (i + 1) = (L ++ [q0, q1, q2, q3], e) := by
              rw [KS_lo HKL.out (by omega), HE.out.1, HE.out.2, ← HWD.out, quad_take _ _ (by rw [HKL.out]; omega)]
              rfl
            have HKS := Lib.hid hKS
            clear hKS
            go_wp2_with fail
            go_roundw
            case rel => exact ⟨i + 1, .slice ao' (i + 1) cp', by rw [HKS.out], by go_num, by omega, by rw [HKS.out]; exact HD⟩
            case measure => simp [intOf]; omega
        · have hpos : 0 < i := by omega
          obtain ⟨g, off, cap, hvw, hic, hcm, kvb, -, -, -⟩ := hq.out.sg.open hpos
          obtain ⟨q0, q1, q2, q3, hqd⟩ := quad_split L (4 * i - 4)
          have QBY : By [q0, q1, q2, q3] := by rw [← hqd]; exact quad_by HB.out.1 _
          have HQD := Lib.hid (And.intro hqd QBY)
          subst hvw
          have hkvb := Lib.hid kvb
          have CW : Hid (∀ w', Nw w w' c t (.slice (some ⟨g, off, none⟩) i cap) i L → ∀ a, a < 4 * i → w'.cell? ⟨g, off + a, none⟩ = some (.int .u8 (L.getD a 0 : Nat))) := Lib.hid fun w' hw' a ha => by
            obtain ⟨g9, o9, c9, hv9, -, -, -, -, hc9, -⟩ := hw'.sg.open hpos
            simp only [Value.slice.injEq, Option.some.injEq, Addr.mk.injEq, true_and, and_true] at hv9
            obtain ⟨⟨rfl, rfl⟩, -⟩ := hv9
            rw [(hc9 a (by omega)).1, b8_get L a (by rw [HL.out]; exact ha)]
          have RJ : Hid (wr.rangeAt g (off + (i - 1) * 4) (b8 [q0, q1, q2, q3])) := Lib.hid (by
            rw [← HQD.out.1]
            refine quad_range (fun k hk => ?_)
            rw [show off + (i - 1) * 4 + k = off + (4 * i - 4 + k) by omega]
            exact CW.out wr hq.out _ (by omega))
          clear kvb QBY hqd
          have cw1 := hq.out.blk.cell 1 _ rfl
          go_upto_region 14 with fail
          have A0 := Lib.hid (Blk.new wr 50 (b8 [0, 0, 0, 0]))
          obtain ⟨t8, ht8⟩ : ∃ t8, t8 = wr.heap.size := ⟨_, rfl⟩
          have A1 : Blk ((wr.alloc (.cells (b8 [0, 0, 0, 0]).toArray 50)).setRow wr.heap.size (b8 [q0, q1, q2, q3]).toArray) wr.heap.size 50 (b8 [q0, q1, q2, q3]) := A0.out.setRow _
          have A2 : Below wr.heap.size wr ((wr.alloc (.cells (b8 [0, 0, 0, 0]).toArray 50)).setRow wr.heap.size (b8 [q0, q1, q2, q3]).toArray) := below_row (below1 wr _) _ _ (Nat.le_refl _)
          have A3 := hq.out.below A2
          have hlt : g < wr.heap.size ∧ c < wr.heap.size ∧ t < wr.heap.size := ⟨hq.out.sg.lt (hkvb.out), hq.out.blk.lt, Blk.lt hq.out.tab⟩
          have A4 := Lib.hid (And.intro A1 (And.intro A3 (hq.out.bel.size)))
          clear A1 A2 A3 hq
          go_upto_block 3 with (first | (refine wpList_load_mid rfl 50 _ rfl g (off + (i - 1) * 4) rfl (b8 [q0, q1, q2, q3]) _ RJ.out Tryd.underlying50 rfl word_size ?_) | (refine store_blk A0.out word_size rfl rfl (b8_one _) rfl rfl rfl rfl ?_))
          rw [show wr.alloc (Obj.cells #[Value.int IntKind.u8 0, Value.int IntKind.u8 0, Value.int IntKind.u8 0, Value.int IntKind.u8 0] 50) = wr.alloc (.cells (b8 [0, 0, 0, 0]).toArray 50) from rfl]
          generalize World.setRow _ _ _ = w2 at *
          rw [← ht8] at A4 hlt ⊢
          clear A0 RJ cw1 ht8
          have hne : t8 ≠ g ∧ t8 ≠ c ∧ t8 ≠ t ∧ w.heap.size ≤ t8 := by have := A4.out.2.2; omega
          have HNE := Lib.hid hne
          have HVT : Hid (∀ q, vblk (.slice (some ⟨g, off, none⟩) i cap) = some q → q ≠ t8) := Lib.hid (fun q hq => by rw [hkvb.out] at hq; have := Option.some.inj hq; have := hne.1; omega)
          clear hne hlt
          simp only [Act.put]
          go_cut [6] (fun v6 wx => Hid (PickP w wx c t g off cap i n L e t8 v6))
          case first =>
            have ha : ((i : Int)).tmod (n : Int) = ((i % n : Nat) : Int) := by rw [Int.tmod_eq_emod_of_nonneg (by omega)]; push_cast; rfl
            have hb : ((i : Int) % (n : Int)) = ((i % n : Nat) : Int) := by push_cast; rfl
            have hC2 := A4.out.2.1.blk
            have c0 := A4.out.1.b8cell 0 (show 0 < 4 by decide)
            have c1 := A4.out.1.b8cell 1 (show 1 < 4 by decide)
            have c2 := A4.out.1.b8cell 2 (show 2 < 4 by decide)
            have c3 := A4.out.1.b8cell 3 (show 3 < 4 by decide)
            rw [show ([q0, q1, q2, q3] : List Nat).getD 0 0 = q0 from rfl] at c0
            rw [show ([q0, q1, q2, q3] : List Nat).getD 1 0 = q1 from rfl] at c1
            rw [show ([q0, q1, q2, q3] : List Nat).getD 2 0 = q2 from rfl] at c2
            rw [show ([q0, q1, q2, q3] : List Nat).getD 3 0 = q3 from rfl] at c3
            have l0 : q0 < 256 := HQD.out.2 q0 (by simp)
            have l1 : q1 < 256 := HQD.out.2 q1 (by simp)
            have l2 : q2 < 256 := HQD.out.2 q2 (by simp)
            have l3 : q3 < 256 := HQD.out.2 q3 (by simp)
            have he256 : e < 256 := HB.out.2
            have hnw := A4.out.2.1
            have HNW2 := Lib.hid hnw
            have HB8 := Lib.hid A4.out.1
            clear hC2 hnw A4
            rcases Nat.eq_zero_or_pos (i % n) with hz | hz
            · have HKF := Lib.hid (kstep_first (L := L) (e := e) sbF hz HQD.out.1)
              have hB : By [q1, q2, q3, q0] := fun x hx => by
                simp only [List.mem_cons, List.not_mem_nil, or_false] at hx
                rcases hx with rfl | rfl | rfl | rfl <;> assumption
              have hall : ∀ w', Nw w w' c t (.slice (some ⟨g, off, none⟩) i cap) i L → Calls Tryd.prog 20 #[.pointer (some ⟨c, 0, none⟩), .agg #[.int .u8 (q1 : Nat), .int .u8 (q2 : Nat), .int .u8 (q3 : Nat), .int .u8 (q0 : Nat)]] w' fun e w'' => e = .returned (.agg (b8 [sbF q1, sbF q2, sbF q3, sbF q0]).toArray) ∧ Below w'.heap.size w' w'' :=
                fun w' h => all_ok c t _ [q1, q2, q3, q0] rfl hB w' h.blk h.tab
              have HALL := Lib.hid (hall w2 HNW2.out)
              have hxo := xor8 (sbF q1) e (sbF_lt _ l1) he256
              have HXO := Lib.hid hxo
              have hz' : ((i % n : Nat) : Int) = 0 := by omega
              clear hall hB hxo
              try rw [hz'] at ha
              try rw [hz'] at hb
              clear hz hz'
              go_upto_region 17 with (first | (go_at_call 20; with_reducible refine HALL.out.mono ?_; rintro e' w3 ⟨rfl, hB3⟩; have S3 := Lib.hid ((HB8.out.below hB3 HB8.out.lt))) | (refine store_blk S3.out word_size rfl rfl (b8_one _) rfl rfl rfl rfl ?_))
              have T4 := (show TP w w2 c t (.slice (some ⟨g, off, none⟩) i cap) i L t8 [q0, q1, q2, q3] from ⟨HNW2.out, HB8.out⟩)
              have T5 := Lib.hid ((T4.below hB3).row HVT.out HNE.out.2.1 HNE.out.2.2.1 HNE.out.2.2.2 [sbF q1, sbF q2, sbF q3, sbF q0])
              clear T4 hB3 S3 HB8 HNW2 HALL
              generalize World.setRow _ _ _ = w4 at *
              clear c0 c1 c2 c3
              have d0 := T5.out.2.b8cell 0 (show 0 < 4 by decide)
              rw [show ([sbF q1, sbF q2, sbF q3, sbF q0] : List Nat).getD 0 0 = sbF q1 from rfl] at d0
              have f0 := T5.out.2.free 0
              have T6 := Lib.hid (T5.out.cell HVT.out HNE.out.2.1 HNE.out.2.2.1 HNE.out.2.2.2 0 (sbF q1 ^^^ e))
              have s1 := sbF_lt _ l1
              have s2 := sbF_lt _ l2
              have s3 := sbF_lt _ l3
              have s0 := sbF_lt _ l0
              have hx1 := xor_lt s1 he256
              have HBY2 : Hid (By [sbF q1 ^^^ e, sbF q2, sbF q3, sbF q0]) := Lib.hid (fun x hx => by
                simp only [List.mem_cons, List.not_mem_nil, or_false] at hx
                rcases hx with rfl | rfl | rfl | rfl <;> assumption)
              clear T5 s1 s2 s3 s0 hx1 l0 l1 l2 l3
              go_upto_region 18 with fail
              rw [HXO.out]
              generalize World.setCell _ _ _ = w5 at *
              clear d0 f0
              go_wp2_with (go_at_call 21; refine (twice_ok e he256 _).mono ?_; rintro e' w' ⟨rfl, rfl⟩)
              go_meet
              exact Lib.hid ⟨tw e, _, rfl, rfl, HBY2.out, tw_lt he256, HKF.out, T6.out.2, T6.out.1⟩
            · have HZ := Lib.hid hz
              have hz0 : (((i : Int) % (n : Int) == 0) : Bool) = false := by rw [hb, beq_eq_false_iff_ne]; omega
              have HBI := Lib.hid hb
              clear ha hb hz c0 c1 c2 c3
              by_cases h8 : n = 8
              · have d8 : ((n : Int) == 8) = true := by rw [beq_iff_eq]; omega
                have H8 := Lib.hid h8
                clear h8
                by_cases h4 : i % n = 4
                · have d4 : (((i : Int) % (n : Int) == 4) : Bool) = true := by rw [HBI.out, beq_iff_eq]; omega
                  have HKF := Lib.hid (kstep_mid (L := L) (e := e) sbF (Nat.ne_of_gt HZ.out) ⟨H8.out, by have e8 := H8.out; subst e8; exact h4⟩ HQD.out.1)
                  have hB : By [q0, q1, q2, q3] := HQD.out.2
                  have hall : Calls Tryd.prog 20 #[.pointer (some ⟨c, 0, none⟩), .agg (b8 [q0, q1, q2, q3]).toArray] w2 fun e w'' => e = .returned (.agg (b8 [sbF q0, sbF q1, sbF q2, sbF q3]).toArray) ∧ Below w2.heap.size w2 w'' :=
                    all_ok c t _ [q0, q1, q2, q3] rfl hB w2 HNW2.out.blk HNW2.out.tab
                  have HALL := Lib.hid hall
                  have s1 := sbF_lt _ l1
                  have s2 := sbF_lt _ l2
                  have s3 := sbF_lt _ l3
                  have s0 := sbF_lt _ l0
                  have HBY2 : Hid (By [sbF q0, sbF q1, sbF q2, sbF q3]) := Lib.hid (fun x hx => by
                    simp only [List.mem_cons, List.not_mem_nil, or_false] at hx
                    rcases hx with rfl | rfl | rfl | rfl <;> assumption)
                  clear hall hB h4 s0 s1 s2 s3
                  go_wp2_with (first | (refine load_blk HB8.out Tryd.underlying50 rfl word_size rfl rfl rfl rfl ?_) | (go_at_call 20; with_reducible refine HALL.out.mono ?_; rintro e' w3 ⟨rfl, hB3⟩; have S3 := Lib.hid ((HB8.out.below hB3 HB8.out.lt))) | (refine store_blk S3.out word_size rfl rfl (b8_one _) rfl rfl rfl rfl ?_))
                  have T4 := (show TP w w2 c t (.slice (some ⟨g, off, none⟩) i cap) i L t8 [q0, q1, q2, q3] from ⟨HNW2.out, HB8.out⟩)
                  have T5 := Lib.hid ((T4.below hB3).row HVT.out HNE.out.2.1 HNE.out.2.2.1 HNE.out.2.2.2 [sbF q0, sbF q1, sbF q2, sbF q3])
                  clear T4 hB3 S3 HB8 HNW2 HALL
                  simp only [Act.put]
                  go_meet
                  exact Lib.hid ⟨e, _, rfl, rfl, HBY2.out, he256, HKF.out, T5.out.2, T5.out.1⟩
                · have d4 : (((i : Int) % (n : Int) == 4) : Bool) = false := by rw [HBI.out, beq_eq_false_iff_ne]; omega
                  have HKF := Lib.hid (kstep_rest (L := L) (e := e) sbF (Nat.ne_of_gt HZ.out) (fun h => h4 (by have e8 := H8.out; subst e8; exact h.2)) HQD.out.1)
                  clear h4
                  go_wp2_with fail
                  go_meet
                  exact Lib.hid ⟨e, _, rfl, rfl, HQD.out.2, he256, HKF.out, HB8.out, HNW2.out⟩
              · have d8 : ((n : Int) == 8) = false := by rw [beq_eq_false_iff_ne]; omega
                have HKF := Lib.hid (kstep_rest (L := L) (e := e) sbF (Nat.ne_of_gt HZ.out) (fun h => h8 h.1) HQD.out.1)
                clear h8
                go_wp2_with fail
                go_meet
                exact Lib.hid ⟨e, _, rfl, rfl, HQD.out.2, he256, HKF.out, HB8.out, HNW2.out⟩
          case rest =>
            obtain ⟨c6, u, rfl, hul, hub, hc6, hks, HU, hnw⟩ := hcut.out
            clear hcut A4
            obtain ⟨u0, u1, u2, u3, hue⟩ : ∃ a b c d, u = [a, b, c, d] := by
              match u, hul with
              | [a, b, c, d], _ => exact ⟨a, b, c, d, rfl⟩
            subst hue
            obtain ⟨r0, r1, r2, r3, hrd⟩ := quad_split L (4 * i - 4 * n)
            have hrb : By [r0, r1, r2, r3] := by rw [← hrd]; exact quad_by HB.out.1 _
            have hks2 : kstep sbF n i (L, e) = (L ++ [u0 ^^^ r0, u1 ^^^ r1, u2 ^^^ r2, u3 ^^^ r3], c6) := by
              rw [hks, ml4]
              simp only [quad, List.cons.injEq, and_true] at hrd
              obtain ⟨h0, h1, h2, h3⟩ := hrd
              rw [Nat.add_zero, h0, h1, h2, h3]
              rfl
            have HKS2 := Lib.hid hks2
            obtain ⟨z0, hz0⟩ : ∃ z, z = u0 ^^^ r0 := ⟨_, rfl⟩
            obtain ⟨z1, hz1⟩ : ∃ z, z = u1 ^^^ r1 := ⟨_, rfl⟩
            obtain ⟨z2, hz2⟩ : ∃ z, z = u2 ^^^ r2 := ⟨_, rfl⟩
            obtain ⟨z3, hz3⟩ : ∃ z, z = u3 ^^^ r3 := ⟨_, rfl⟩
            have hxw : xw [u0, u1, u2, u3] [r0, r1, r2, r3] = [z0, z1, z2, z3] := by rw [hz0, hz1, hz2, hz3]; rfl
            rw [← hz0, ← hz1, ← hz2, ← hz3] at HKS2
            have hxk : ∀ w', Calls Tryd.prog 22 #[.agg (b8 [u0, u1, u2, u3]).toArray, .agg (b8 [r0, r1, r2, r3]).toArray] w' fun e w'' => e = .returned (.agg (b8 [z0, z1, z2, z3]).toArray) ∧ Rw w' w'' := fun w' => by
              have h := wxor_ok [u0, u1, u2, u3] [r0, r1, r2, r3] rfl rfl hub hrb w'
              rw [hxw] at h
              exact h
            have HXK := Lib.hid hxk
            have HN3 := Lib.hid hnw
            have C1 : Hid (∀ w', Keeps (fun q => vblk (.slice (some ⟨g, off, none⟩) i cap) = some q) wc.drew w' → w'.cell? ⟨c, 1, none⟩ = some (.slice (some ⟨g, off, none⟩) i cap)) := Lib.hid fun w' hw' => (hw'.blk (HN3.out.below (below_drewN (Below.refl wc.heap.size wc) 1)).blk (fun e => (HN3.out.own c e).2.1 rfl)).cell 1 _ rfl
            have HUK : Hid (∀ w', Keeps (fun q => vblk (.slice (some ⟨g, off, none⟩) i cap) = some q) wc.drew w' → Blk w' t8 50 (b8 [u0, u1, u2, u3])) := Lib.hid fun w' hw' => hw'.blk (HU.below (below_drewN (Below.refl wc.heap.size wc) 1) HU.lt) (fun e => HVT.out t8 e rfl)
            have RR : Hid (∀ w', Rw wc.drew w' → w'.rangeAt g (off + (i - n) * 4) (b8 [r0, r1, r2, r3])) := Lib.hid fun w' hw' => by
              rw [← hrd]
              refine quad_range (fun k hk => ?_)
              rw [show off + (i - n) * 4 + k = off + (4 * i - 4 * n + k) by omega]
              exact CW.out w' (HN3.out.below (Rw.trans (show Rw wc wc.drew from below_drewN (Below.refl wc.heap.size wc) 1) hw')) _ (by omega)
            clear hz0 hz1 hz2 hz3 hxw hxk hks hks2 hrd hrb hub hul HU hnw CW HQD
            go_upto_region 21 with fail
            (refine Pq.wp_region_plan (fun q => vblk (.slice (some ⟨g, off, none⟩) i cap) = some q) 20 [(true, 0), (true, 1), (true, 2), (true, 3), (true, 4), (true, 5), (true, 6), (true, 7), (true, 8), (true, 9), (true, 10), (true, 11), (true, 12), (true, 13), (false, 14), (true, 15), (false, 16), (false, 17), (false, 18), (false, 19), (false, 20)] (by kernel_rfl) (by kernel_rfl) ?_)
            (refine Pq.plan_head (i := 0) rfl (fun K hK => ?_); refine Pq.plan_plain (.pointer (some ⟨c, 0, none⟩)) (by first | rfl | simp [Region.wanted, yielded]) (fun w' hw' => by go_simp) ?_; go_simp; (with_reducible apply hK); clear hK K)
            (refine Pq.plan_head (i := 1) rfl (fun K hK => ?_); refine Pq.plan_plain (.pointer (some ⟨c, 0, none⟩)) (by first | rfl | simp [Region.wanted, yielded]) (fun w' hw' => by go_simp) ?_; go_simp; (with_reducible apply hK); clear hK K)
            (refine Pq.plan_head (i := 2) rfl (fun K hK => ?_); refine Pq.plan_plain (.pointer (some ⟨c, 0, none⟩)) (by first | rfl | simp [Region.wanted, yielded]) (fun w' hw' => by go_simp) ?_; go_simp; (with_reducible apply hK); clear hK K)
            (refine Pq.plan_head (i := 3) rfl (fun K hK => ?_); refine Pq.plan_plain (.pointer (some ⟨c, 1, none⟩)) (by first | rfl | simp [Region.wanted, yielded]) (fun w' hw' => by go_simp) ?_; go_simp; (with_reducible apply hK); clear hK K)
            (refine Pq.plan_head (i := 4) rfl (fun K hK => ?_); refine Pq.plan_plain (.slice (some ⟨g, off, none⟩) i cap) (by first | rfl | simp [Region.wanted, yielded]) (fun w' hw' => by have e := C1.out _ hw'; go_simp; try simp [e]) ?_; go_simp; (with_reducible apply hK); clear hK K)
            (refine Pq.plan_head (i := 5) rfl (fun K hK => ?_); refine Pq.plan_load (fun w' hw' => HUK.out w' hw') Tryd.underlying50 rfl word_size rfl (by first | rfl | simp [Region.wanted, yielded]) rfl (by go_simp) ?_; go_simp; (with_reducible apply hK); clear hK K)
            (refine Pq.plan_head (i := 6) rfl (fun K hK => ?_); refine Pq.plan_plain (.pointer (some ⟨c, 0, none⟩)) (by first | rfl | simp [Region.wanted, yielded]) (fun w' hw' => by go_simp) ?_; go_simp; (with_reducible apply hK); clear hK K)
            (refine Pq.plan_head (i := 7) rfl (fun K hK => ?_); refine Pq.plan_plain (.pointer (some ⟨c, 0, none⟩)) (by first | rfl | simp [Region.wanted, yielded]) (fun w' hw' => by go_simp) ?_; go_simp; (with_reducible apply hK); clear hK K)
            (refine Pq.plan_head (i := 8) rfl (fun K hK => ?_); refine Pq.plan_plain (.pointer (some ⟨c, 1, none⟩)) (by first | rfl | simp [Region.wanted, yielded]) (fun w' hw' => by go_simp) ?_; go_simp; (with_reducible apply hK); clear hK K)
            (refine Pq.plan_head (i := 9) rfl (fun K hK => ?_); refine Pq.plan_plain (.slice (some ⟨g, off, none⟩) i cap) (by first | rfl | simp [Region.wanted, yielded]) (fun w' hw' => by have e := C1.out _ hw'; go_simp; try simp [e]) ?_; go_simp; (with_reducible apply hK); clear hK K)
            (refine Pq.plan_head (i := 10) rfl (fun K hK => ?_); refine Pq.plan_plain (.int .i64 (i : Nat)) (by first | rfl | simp [Region.wanted, yielded]) (fun w' hw' => by go_simp) ?_; go_simp; (with_reducible apply hK); clear hK K)
            (refine Pq.plan_head (i := 11) rfl (fun K hK => ?_); refine Pq.plan_plain (.int .i64 (n : Nat)) (by first | rfl | simp [Region.wanted, yielded]) (fun w' hw' => by go_simp) ?_; go_simp; (with_reducible apply hK); clear hK K)
            (refine Pq.plan_head (i := 12) rfl (fun K hK => ?_); refine Pq.plan_plain (.int .i64 ((i : Int) - n)) (by first | rfl | simp [Region.wanted, yielded]) (fun w' hw' => by go_simp; rw [IntKind.wrap_i64]; omega) ?_; go_simp; (with_reducible apply hK); clear hK K)
            (refine Pq.plan_head (i := 13) rfl (fun K hK => ?_); refine Pq.plan_plain (.pointer (some ⟨g, off + (i - n) * 4, none⟩)) (by first | rfl | simp [Region.wanted, yielded]) (fun w' hw' => by have hni : n ≤ i := (by omega); go_simp; try (intro hh; omega)) ?_; go_simp; (with_reducible apply hK); clear hK K)
            refine Pq.plan_sole (i := 14) rfl (fun w2' h2 Q2 hQ2 => ?_)
            have K2 := Lib.hid ((Keeps.refl (fun q => vblk (.slice (some ⟨g, off, none⟩) i cap) = some q) wc.drew).rw h2)
            have B3 := Lib.hid (Rw.trans (show Rw wc wc.drew from below_drewN (Below.refl wc.heap.size wc) 1) h2)
            have R2 := Lib.hid (RR.out w2' h2)
            clear RR h2
            go_wp2_with (refine wpList_load_mid rfl 50 _ rfl g (off + (i - n) * 4) rfl (b8 [r0, r1, r2, r3]) _ R2.out Tryd.underlying50 rfl word_size ?_)
            refine hQ2 _ _ K2.out ?_
            clear hQ2 Q2 R2
            (refine Pq.plan_head (i := 15) rfl (fun K hK => ?_); refine Pq.plan_call (.agg (b8 [z0, z1, z2, z3]).toArray) 22 #[.agg (b8 [u0, u1, u2, u3]).toArray, .agg (b8 [r0, r1, r2, r3]).toArray] (by first | rfl | simp [Region.wanted, yielded]) (fun w' => by go_simp) (fun w' hw' => HXK.out w') ?_; go_simp; (with_reducible apply hK); clear hK K)
            have K3 := K2
            refine Pq.plan_sole (i := 16) rfl (fun w6 h6 Q6 hQ6 => ?_)
            have K6 := Lib.hid ((K3.out.rw h6).alloc (.cells #[.int .u8 (z0 : Nat), .int .u8 (z1 : Nat), .int .u8 (z2 : Nat), .int .u8 (z3 : Nat)] 50))
            have B6 := Lib.hid (Rw.trans (Rw.trans B3.out h6) (below1 w6 (.cells #[.int .u8 (z0 : Nat), .int .u8 (z1 : Nat), .int .u8 (z2 : Nat), .int .u8 (z3 : Nat)] 50)))
            have L6 := Lib.hid (lit_w w6 50 z0 z1 z2 z3)
            clear K3 B3 h6
            rw [show (b8 [z0, z1, z2, z3]).toArray = #[.int .u8 (z0 : Nat), .int .u8 (z1 : Nat), .int .u8 (z2 : Nat), .int .u8 (z3 : Nat)] from rfl]
            go_wp2_with fail
            refine hQ6 _ _ K6.out ?_
            clear hQ6 Q6
            generalize hw7 : w6.alloc _ = w7 at *
            clear hw7
            refine Pq.plan_sole (i := 17) rfl (fun w8 h8 Q8 hQ8 => ?_)
            have B8 := Lib.hid (Rw.trans B6.out h8)
            have K8 := Lib.hid (K6.out.rw h8)
            have SV := Lib.hid (HN3.out.below B8.out).sg
            have SL := Lib.hid (L6.out.below h8)
            have hi60 : i < 60 := by omega
            have b1 : i + 1 ≤ maxLen := by unfold maxLen; omega
            have b2 : (i + 1) * 4 ≤ 140737488355328 := by omega
            have HBB := Lib.hid (And.intro b1 b2)
            clear b1 b2 K6 B6 L6 h8
            go_simp
            refine wpList_append_any _ rfl (.tmp 97) (.tmp 109) 46 rfl 50 j0 (.agg #[.int .u8 0, .int .u8 0, .int .u8 0, .int .u8 0]) 4 4 Tryd.underlying46 J.out J0.out J1.out J2.out rfl (by decide) (.slice (some ⟨g, off, none⟩) i cap) i _ rfl SV.out (.slice (some ⟨w6.heap.size, 0, none⟩) 1 1) 1 _ rfl SL.out (b8_one _) HBB.out.1 HBB.out.2 ?grow
            case grow =>
              intro v' w9 hs9 hv9 hk9
              obtain ⟨ao', cp', hv'⟩ : ∃ ao cp, v' = .slice ao (i + 1) cp := let ⟨_, ao, cp, h, _⟩ := hs9; ⟨ao, cp, h⟩
              subst hv'
              have K9 := Lib.hid (K8.out.trans hk9 (fun q _ HN3 => HN3))
              have HG : Hid (∀ wz, Rw w9 wz → Nw w (wz.setCell ⟨c, 1, none⟩ (.slice ao' (i + 1) cp')) c t (.slice ao' (i + 1) cp') (i + 1) (L ++ [z0, z1, z2, z3])) := Lib.hid (fun wz hz => HN3.out.grow B8.out hs9 hv9 hk9 hz hcw HCT.out)
              have CC : Hid (∀ wz, Rw w9 wz → wz.cell? ⟨c, 1, none⟩ = some (.slice (some ⟨g, off, none⟩) i cap) ∧ wz.frozen? ⟨c, 1, none⟩ = false) := Lib.hid (fun wz hz => by
                have B := (hk9.blk (HN3.out.below B8.out).blk (fun e => (HN3.out.own c e).2.1 rfl)).below hz (hk9.blk (HN3.out.below B8.out).blk (fun e => (HN3.out.own c e).2.1 rfl)).lt
                exact ⟨B.cell 1 _ rfl, B.free 1⟩)
              clear hs9 hv9 hk9 HN3 SV SL K8 B8 C1
              go_wp2_with fail
              refine hQ8 _ _ K9.out ?_
              clear hQ8 Q8
              have R9 : Hid (Rw w9 w9) := Lib.hid (Rw.refl w9)
              refine Pq.plan_sole (i := 18) rfl (fun wa ha Qa hQa => ?_)
              have RA := Lib.hid (Rw.trans R9.out ha)
              have KA := Lib.hid (K9.out.rw ha)
              clear K9 R9 ha
              go_wp2_with fail
              refine hQa _ _ KA.out ?_
              clear hQa Qa
              refine Pq.plan_sole (i := 19) rfl (fun wb hb Qb hQb => ?_)
              have RB := Lib.hid (Rw.trans RA.out hb)
              have KB := Lib.hid (KA.out.rw hb)
              clear KA RA hb
              go_wp2_with fail
              refine hQb _ _ KB.out ?_
              clear hQb Qb KB
              refine Pq.plan_last rfl (fun wl hl Ql hQl => ?_)
              have RC := Rw.trans RB.out hl
              have cc := (CC.out wl RC).1
              have cf := (CC.out wl RC).2
              have HH := Lib.hid (HG.out wl RC)
              clear RB hl RC HG CC
              go_wp2_with fail
              intro wd hd
              have HD := Lib.hid (HH.out.below hd)
              clear HH cc cf hd

              have hKS : KS n (natL key) (i + 1) = (L ++ [z0, z1, z2, z3], c6) := by rw [HST.out (by omega), HKS2.out]
              have HKS := Lib.hid hKS
              clear hKS
              go_wp2_with fail
              go_roundw
              case rel => exact ⟨i + 1, .slice ao' (i + 1) cp', by rw [HKS.out], by go_num, by omega, by rw [HKS.out]; exact HD⟩
              case measure => simp [intOf]; omega
      · have hie : i = 4 * (n + 7) := by omega
        have hpos : 0 < i := by omega
        obtain ⟨g, off, cap, hvw, hic, hcm, kvb, -, hcell, -⟩ := hq.out.sg.open hpos
        have hKL : L = (kexp subN n (natL key) (3 * n + 28)).1 := by
          have e1 := HEX.out i rfl
          rw [KS_hi (by omega), show i - n = 3 * n + 28 by omega] at e1
          have e2 := kexp_congr (f := sbF) (g := subN) (fun x hx => sb_at hx) sbF_lt n (natL_by key) (3 * n + 28)
          rw [← e2, e1]
        have HCI : Hid (Ci wr c t g off (4 * (n + 7)) cap (kexp subN n (natL key) (3 * n + 28)).1) := Lib.hid (by
          rw [← hKL, ← hie]
          subst hvw
          exact ⟨hq.out.blk, hq.out.tab, HL.out, hic, fun a ha => by rw [(hcell a (by rw [← HL.out.trans (Nat.mul_comm 4 i)]; exact ha)).1, b8_get L a ha], HB.out.1⟩)
        have HBW := Lib.hid hq.out.bel
        clear hie hpos hvw hic hcm kvb hcell hKL hq
        go_wp2_with fail
        go_ret2
        exact ⟨c, t, g, off, cap, rfl, HCI.out, HBW.out⟩
end Go.Proofs.YteleedcpepifjaaDoor
