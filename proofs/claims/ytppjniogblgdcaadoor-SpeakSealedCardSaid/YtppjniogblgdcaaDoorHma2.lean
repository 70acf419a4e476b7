/-
hmac: Sum.
-/
import Derived.Test.YtppjniogblgdcaaDoorHma1
namespace Go.Proofs.YtppjniogblgdcaaDoor
open Go.RowKit Cha Sha Hm
set_option maxRecDepth 100000
theorem strI : ∃ i, Tryd.prog.info? 9 = some i ∧ i.zero = some (.string ⟨#[]⟩) ∧ i.size = 1 ∧ i.bytes = 16 := by
  have h : (Tryd.prog.info? 9).map (fun i => (i.zero, i.size, i.bytes)) = some (some (.string ⟨#[]⟩), 1, 16) := by kernel_rfl
  cases hi : Tryd.prog.info? 9 with
  | none => rw [hi] at h; cases h
  | some i =>
    rw [hi] at h
    simp only [Option.map_some, Option.some.injEq, Prod.mk.injEq] at h
    exact ⟨i, rfl, h⟩
theorem Blk.sgS {w : World} {b : Nat} {t : TypeId} {xs : List Value} (h : Blk w b t xs) (hl : xs.length ≤ maxLen) : Sg w 1 (.slice (some ⟨b, 0, none⟩) xs.length xs.length) xs.length xs := by
  refine ⟨by omega, _, _, rfl, Nat.le_refl _, hl, .inr ⟨b, 0, rfl, h.lt, fun j hj => ?_, fun j hj => ?_⟩⟩
  · rw [Nat.zero_add, h.cell j (xs[j]'(by omega)) (by rw [List.getElem?_eq_getElem])]
    exact ⟨rfl, h.free _⟩
  · rw [Nat.zero_add]
    have hj' : j < xs.length := by omega
    rw [h.cell j (xs[j]'hj') (by rw [List.getElem?_eq_getElem]), List.getElem?_eq_getElem hj']
theorem maxLen1 : 1 ≤ maxLen := by unfold maxLen; omega
def vS (xs : List ByteArray) : List Value := xs.map .string
theorem vS_one (xs : List ByteArray) : ∀ y ∈ vS xs, y.oneCell' = true := by intro y hy; obtain ⟨d, _, rfl⟩ := List.mem_map.1 hy; rfl
theorem vS_len (xs : List ByteArray) : (vS xs).length = xs.length := by simp [vS]
theorem sum256_sg {T F : List Int} {w0 : World} (hT : ShaT w0 T F) (hg : ShaG w0) (g off : Nat) (xs : List ByteArray) (n c : Nat) (hn : n = xs.length) (hn0 : 0 < n) (hxl : xs.length ≤ 1000) (hlen : (catL xs).length ≤ 1000000)
    {w : World} (hb : Below w0.heap.size w0 w) (hS : Sg w 1 (.slice (some ⟨g, off, none⟩) n c) n (vS xs)) :
    Calls Tryd.prog 6 #[.slice (some ⟨g, off, none⟩) n c] w fun e w' => e = .returned (.agg (byv (S256 T F (catL xs))).toArray) ∧ Rw w w' := by
  have hs := hb.size
  have := hg.1
  have := hg.2
  obtain ⟨g', o', c', he, hnc, _, _, hlt, hc, _⟩ := hS.open hn0
  simp only [Value.slice.injEq, Option.some.injEq, Addr.mk.injEq, true_and, and_true] at he
  obtain ⟨⟨rfl, rfl⟩, rfl⟩ := he
  subst hn
  refine sum256_ok T F g off c xs w (hT.below hb) (fun j x hj => ?_) hlt hxl hnc hlen (by omega) (by omega)
  have hjl : j < xs.length := (List.getElem?_eq_some_iff.1 hj).1
  rw [(hc j (by omega)).1]
  unfold vS
  rw [List.getElem?_map, hj]; rfl
namespace Hm
def inL (T F : List Int) (key m : List UInt8) : List UInt8 := S256 T F (padL T F key 54 ++ m)
def hmacF (T F : List Int) (key m : List UInt8) : List UInt8 := S256 T F (padL T F key 92 ++ inL T F key m)
end Hm
set_option maxHeartbeats 4000000 in
theorem hsum_ok (T F : List Int) (key : List UInt8) (xs : List ByteArray) (m lb : Nat) (ty : TypeId) (hm : m = xs.length) (hm0 : 0 < m) (hm9 : m ≤ 100) (hl : key.length ≤ 100000) (hc : (catL xs).length ≤ 100000) (w : World) (hB : Blk w lb ty (vS xs)) (hT : ShaT w T F) (hg : ShaG w) :
    Calls Tryd.prog 13 #[.string (by8 key), .slice (some ⟨lb, 0, none⟩) m m] w fun e w' => e = .returned (.agg (byv (hmacF T F key (catL xs))).toArray) ∧ Below w.heap.size w w' := by
  have hpad : Hid (∀ (b : UInt8) w', Below w.heap.size w w' → Calls Tryd.prog 27 #[.string (by8 key), .int .u8 (b.toNat : Nat)] w' fun e w'' => e = .returned (.string (by8 (Hm.padL T F key b))) ∧ Below w'.heap.size w' w'') := Lib.hid fun b w' hb => by
    have := hb.size
    exact pad_ok T F key b hl w' (hT.below hb) ⟨by have := hg.1; omega, by have := hg.2; omega⟩
  obtain ⟨P1, hP1⟩ : ∃ P1, P1 = Hm.padL T F key 54 := ⟨_, rfl⟩
  obtain ⟨P2, hP2⟩ : ∃ P2, P2 = Hm.padL T F key 92 := ⟨_, rfl⟩
  obtain ⟨I1, hI1⟩ : ∃ I1, I1 = inL T F key (catL xs) := ⟨_, rfl⟩
  obtain ⟨R, hR⟩ : ∃ R, R = hmacF T F key (catL xs) := ⟨_, rfl⟩
  have lP1 : P1.length = 64 := by rw [hP1]; exact Hm.padL_len _ _ _ _
  have lP2 : P2.length = 64 := by rw [hP2]; exact Hm.padL_len _ _ _ _
  have lI1 : I1.length = 32 := by rw [hI1]; exact S256_len hT _
  have lR : R.length = 32 := by rw [hR]; exact S256_len hT _
  have hp1 : Hid (∀ w', Below w.heap.size w w' → Calls Tryd.prog 27 #[.string (by8 key), .int .u8 54] w' fun e w'' => e = .returned (.string (by8 P1)) ∧ Below w'.heap.size w' w'') := Lib.hid fun w' hb => by rw [hP1]; exact hpad.out 54 w' hb
  have hp2 : Hid (∀ w', Below w.heap.size w w' → Calls Tryd.prog 27 #[.string (by8 key), .int .u8 92] w' fun e w'' => e = .returned (.string (by8 P2)) ∧ Below w'.heap.size w' w'') := Lib.hid fun w' hb => by rw [hP2]; exact hpad.out 92 w' hb
  have hs1 : Hid (∀ (g off c : Nat) w', Below w.heap.size w w' → Sg w' 1 (.slice (some ⟨g, off, none⟩) (1 + m) c) (1 + m) ([.string (by8 P1)] ++ vS xs) → Calls Tryd.prog 6 #[.slice (some ⟨g, off, none⟩) (1 + m) c] w' fun e w'' => e = .returned (.agg (byv I1).toArray) ∧ Rw w' w'') := Lib.hid fun g off c w' hb hS => by
    have := sum256_sg hT hg g off (by8 P1 :: xs) (1 + m) c (by rw [List.length_cons, hm]; omega) (by omega) (by rw [List.length_cons]; omega) (by rw [catL_cons, List.length_append]; omega) hb hS
    rw [catL_cons] at this
    rw [hI1]
    unfold inL
    rw [← hP1]
    exact this
  have hs2 : Hid (∀ w' bk ty, Below w.heap.size w w' → Blk w' bk ty [.string (by8 P2), .string (by8 I1)] → Calls Tryd.prog 6 #[.slice (some ⟨bk, 0, none⟩) 2 2] w' fun e w'' => e = .returned (.agg (byv R).toArray) ∧ Rw w' w'') := Lib.hid fun w' bk ty hb hS => by
    have := sum256_at hT hg bk ty [by8 P2, by8 I1] 2 2 rfl (Nat.le_of_ble_eq_true rfl) (Nat.le_of_ble_eq_true rfl) (by rw [catL_cons, catL_one, List.length_append]; omega) hb hS
    rw [catL_cons, catL_one] at this
    rw [hR]
    unfold hmacF
    rw [← hP2, ← hI1]
    exact this
  rw [← hR]
  have lI : Hid ((byv I1).length = 32) := Lib.hid (by rw [byv_len]; exact lI1)
  have lRR : Hid ((byv R).length = 32) := Lib.hid (by rw [byv_len]; exact lR)
  have hZ : Hid ((byv (List.replicate 32 (0 : UInt8))).length = 32) := Lib.hid rfl
  have HXS : Hid (Sg w 1 (.slice (some ⟨lb, 0, none⟩) m m) m (vS xs)) := Lib.hid (by
    have := hB.sgS (by rw [vS_len]; unfold maxLen; omega)
    rw [vS_len, ← hm] at this
    exact this)
  obtain ⟨i0, I, I0, I1', I2⟩ := strI
  replace I := Lib.hid I
  replace I0 := Lib.hid I0
  replace I1' := Lib.hid I1'
  replace I2 := Lib.hid I2
  have HBB : Hid (1 + m ≤ maxLen ∧ (1 + m) * 16 ≤ 140737488355328 ∧ 0 < m) := Lib.hid ⟨by unfold maxLen; omega, by omega, hm0⟩
  have li1 := lI1
  replace li1 := Lib.hid li1
  clear hpad hP1 hP2 hI1 hR lP1 lP2 lI1 lR hB hT hg hl hc hm hm0 hm9
  go_enter Tryd.func13, Tryd.ntmps13
  go_upto_region 1 with fail
  refine wp_gen (fun wx => Blk wx w.heap.size 24 (byv (List.replicate 32 0)) ∧ Below w.heap.size w wx) ⟨Blk.new w _ _, below1 _ _⟩ ?_
  rintro w1 ⟨B1, BW1⟩
  have H1 := Lib.hid (And.intro B1 BW1)
  clear B1 BW1
  go_upto_region 2 with (first
    | (go_at_call 27; refine (hp1.out _ H1.out.2).mono ?_; rintro e w2 ⟨rfl, hb2⟩; have H2 := Lib.hid (And.intro (H1.out.1.rw hb2) (Rw.out H1.out.2 hb2)); clear hb2; have SL := Lib.hid ((Blk.new w2 9 [.string (by8 P1)]).sgS maxLen1); have SX := Lib.hid ((HXS.out.below H2.out.2).below (below1 w2 (.cells #[.string (by8 P1)] 9))))
    | (at_builtin; refine wpList_append_any _ rfl (.tmp 8) (.tmp 9) 49 rfl 9 i0 (.string ⟨#[]⟩) 1 16 Tryd.underlying49 I.out I0.out I1'.out I2.out rfl (by decide) (.slice (some ⟨w2.heap.size, 0, none⟩) 1 1) 1 _ rfl SL.out (.slice (some ⟨lb, 0, none⟩) m m) m _ rfl SX.out (vS_one _) HBB.out.1 HBB.out.2.1 ?grow))
  case grow =>
    intro v' w4 hs4 hv4 hk4
    have KB := Keeps.below (B := w.heap.size) hk4 (Nat.le_trans H2.out.2.size (below1 w2 (.cells #[.string (by8 P1)] 9)).size) (fun k hk => by
      simp only [vblk]
      have := H2.out.2.size
      intro h
      simp at h
      omega)
    have kb1 : vblk (.slice (some ⟨w2.heap.size, 0, none⟩) 1 1) = some w2.heap.size := by simp [vblk]
    have B4 : Blk w4 w.heap.size 24 (byv (List.replicate 32 0)) := hk4.blk (H2.out.1.rw (below1 w2 _)) (by
      rw [kb1]
      intro h
      have h2 := H2.out.1.lt
      simp only [Option.some.injEq] at h
      omega)
    have BW4 : Below w.heap.size w w4 := (H2.out.2.trans (Below.mono (below1 w2 _) H2.out.2.size)).trans KB
    obtain ⟨g, off, cp, rfl, hrest⟩ := hs4.open (Nat.lt_of_lt_of_le (by decide : 0 < 1) (Nat.le_add_right 1 m))
    have H4 := Lib.hid (And.intro B4 (And.intro BW4 hs4))
    clear KB kb1 B4 BW4 hs4 hv4 hk4 hrest SX SL H2
    go_upto_region 2 with (first
      | (go_at_call 6; refine (hs1.out g off cp _ H4.out.2.1 H4.out.2.2).mono ?_; rintro e w5 ⟨rfl, hb5⟩; have H5 := Lib.hid (And.intro (H4.out.1.rw hb5) (Rw.out H4.out.2.1 hb5)); clear hb5 H4)
      | refine store_blk (Blk.new w5 24 (byv (List.replicate 32 0))) arr32_size' lI.out hZ.out (byv_one _) rfl rfl rfl rfl ?_)
    refine wp_gen (fun wx => Blk wx w5.heap.size 24 (byv I1) ∧ Blk wx w.heap.size 24 (byv (List.replicate 32 0)) ∧ Below w.heap.size w wx) ⟨(Blk.new w5 24 (byv (List.replicate 32 0))).setRow (byv I1), ?gen2, below_row (Rw.out H5.out.2 (below1 _ _)) _ _ H5.out.2.size⟩ ?_
    case gen2 => exact (H5.out.1.rw (below1 w5 _)).farRow (Nat.ne_of_lt H5.out.1.lt) _
    rintro w6 ⟨B6, B6', BW6⟩
    have hcv : Hid (∀ w', Rw (w6.drewN 1) w' → (convert 25 9 (.slice (some ⟨w5.heap.size, 0, none⟩) 32 32)).run Tryd.prog w' = .ok (.string (by8 I1)) w') := Lib.hid fun w' h => ((B6.drew 1).rw h).str8 32 li1.out.symm
    have hcv' := hcv.out
    have BW6' : Hid (Below w.heap.size w (w6.drewN 1)) := Lib.hid (Rw.out BW6 (below_drewN (Below.refl _ _) 1))
    have H6 := Lib.hid (B6'.drew 1)
    clear B6 B6' BW6 H5 hcv
    (refine wp_region_quiet_tail (C := fun w' => Rw (w6.drewN 1) w') 4 (by kernel_rfl) (by kernel_rfl) (Rw.refl _) ?_; simp only [List.take_succ_cons, List.take_zero, List.drop_succ_cons, List.drop_zero])
    (iterate 1 ((with_reducible refine wpQuiet_step (fun K hK => ?_)); refine quiet_autoE (by first | rfl | simp [Region.wanted, yielded]) ?_; apply Exists.intro; refine ⟨fun w' hw' => ?_, ?_⟩; (focus (go_simp; (first | done | rfl | ((try go_ints); (try simp only [↓IntWalk.iteOmega, true_and]); (try go_simp); (first | done | rfl))))); go_simp; (with_reducible apply hK); clear hK K))
    ((with_reducible refine wpQuiet_step (fun K hK => ?_)); refine quiet_callE (by first | rfl | simp [Region.wanted, yielded]) ?_; apply Exists.intro; apply Exists.intro; refine ⟨fun w' => ?_, ?_⟩; (focus (go_simp; try (first | exact ⟨rfl, rfl⟩ | rfl))); apply Exists.intro; refine ⟨fun w' hw' => quiet_below hw' (hp2.out w' (Rw.out BW6'.out hw')), ?_⟩; go_simp; (with_reducible apply hK); clear hK K)
    (iterate 2 ((with_reducible refine wpQuiet_step (fun K hK => ?_)); refine quiet_autoE (by first | rfl | simp [Region.wanted, yielded]) ?_; apply Exists.intro; refine ⟨fun w' hw' => ?_, ?_⟩; (focus (go_simp; (first | done | rfl | ((try go_ints); (try simp only [↓IntWalk.iteOmega, true_and]); (try go_simp); (first | done | rfl))))); go_simp; (with_reducible apply hK); clear hK K))
    refine wpQuiet_nil ?_
    intro w7 h7
    have H7 := Lib.hid (And.intro (H6.out.rw h7) (Rw.out BW6'.out h7))
    clear h7 H6 BW6' hcv'
    go_wp2_with (first
      | (go_at_call 6; refine (hs2.out _ _ _ (Rw.out H7.out.2 (below1 _ _)) (Blk.new w7 9 [.string (by8 P2), .string (by8 I1)])).mono ?_; rintro e w8 ⟨rfl, hb8⟩; have H8 := Lib.hid (And.intro ((H7.out.1.rw (below1 _ _)).rw hb8) (Rw.out (Rw.out H7.out.2 (below1 _ _)) hb8)); clear hb8)
      | refine store_blk H8.out.1 arr32_size' lRR.out hZ.out (byv_one _) rfl rfl rfl rfl ?_)
    exact ret_blk rfl (H8.out.1.setRow (byv R)) Tryd.underlying24 rfl arr32_size' lRR.out rfl rfl ⟨rfl, below_row H8.out.2 _ _ (Nat.le_refl _)⟩
end Go.Proofs.YtppjniogblgdcaaDoor
