/-
sha2: Sum256, Sum512.
-/
import Derived.Test.YtppjniogblgdcaaDoorSha4
namespace Go.Proofs.YtppjniogblgdcaaDoor
open Go.RowKit Sha
set_option maxRecDepth 100000
theorem kb_len (b : Bool) : (kb b).length = 14 := by rw [iv_len]; cases b <;> rfl
/-- '[]byte(s)', looked at as an array -/
theorem by_arr (w : World) (e : TypeId) (l : List UInt8) (hl : l.length ≤ 1000000) : ∃ cp, byVal w e (by8 l) = .slice (some ⟨w.heap.size, 0, none⟩) l.length cp ∧ l.length ≤ cp ∧ (byWorld w e (by8 l)).rangeAt w.heap.size 0 (byv l) ∧ Rw w (byWorld w e (by8 l)) := by
  have hs := by8_size l
  have hsg := by_sg w e (by8 l) (by rw [hs]; unfold maxLen; omega)
  have hv : byVal w e (by8 l) = .slice (some ⟨w.heap.size, 0, none⟩) l.length (grownCap w l.length 0 e) := by unfold byVal; rw [hs]
  refine ⟨_, hv, grownCap_ge w l.length 0 e, fun j v hj => ?_, by_below w e (by8 l)⟩
  rw [hv, hs] at hsg
  obtain ⟨_, ao, cap, he, hn, _, hc⟩ := hsg
  have hjl : j < l.length := by
    have := (List.getElem?_eq_some_iff.1 hj).1
    rwa [byv_len] at this
  simp only [Value.slice.injEq] at he
  obtain ⟨rfl, _, rfl⟩ := he
  rcases hc with h0 | ⟨g, off, he, _, _, hx⟩
  · omega
  · simp only [Option.some.injEq, Addr.mk.injEq] at he
    obtain ⟨rfl, rfl, _⟩ := he
    rw [hx j (by omega)]
    exact hj
theorem run_arrayAt {P : Program} {t e : TypeId} {n : Nat} (ht : P.underlying t = some (.array n e)) (a : Addr) (len cap : Nat) (h : n ≤ len) (w : World) : (Instr.arrayAt t (.slice (some a) len cap)).run P w = .ok (.pointer (some a)) w := by
  simp [Instr.arrayAt, run_underlying ht, Nat.not_lt.2 h]
theorem kind256_ok (w : World) : Calls Tryd.prog 16 #[] w fun e w' => e = .returned (.agg (kb false).toArray) ∧ Below w.heap.size w w' := by
  have LK := Lib.hid (kb_len false)
  go_enter Tryd.func16, Tryd.ntmps16
  have NB : Blk (w.alloc (.cells (iv .i64 (List.replicate 14 0)).toArray 52)) w.heap.size 52 (iv .i64 (List.replicate 14 0)) := Blk.new _ _ _
  go_upto_region 1 with fail
  refine wp_gen (fun wx => Blk wx w.heap.size 52 (iv .i64 (List.replicate 14 0)) ∧ Below w.heap.size w wx) ⟨NB, below1 _ _⟩ ?_
  rintro w1 ⟨B1, BW⟩
  clear NB
  have hag : (#[Value.int .i64 32, .int .i64 64, .int .i64 7, .int .i64 18, .int .i64 3, .int .i64 17, .int .i64 19, .int .i64 10, .int .i64 2, .int .i64 13, .int .i64 22, .int .i64 6, .int .i64 11, .int .i64 25] : Array Value) = (kb false).toArray := rfl
  go_wp2_with (refine store_blk (cs := kb false) B1 kind_size LK.out rfl (iv_one _ _) rfl rfl rfl rfl ?_)
  exact ret_blk rfl (B1.setRow _) Tryd.underlying52 rfl kind_size LK.out rfl rfl ⟨rfl, below_row BW _ _ (Nat.le_refl _)⟩
theorem sum256_len (T F : List Int) (m : List UInt8) (hF : F.length = 8) : (sumF false T F m).length = 32 := by
  unfold sumF outL
  have hl := blk_len false T (startH false F 8) (padded false m) (start_len false F 8) ((padded false m).length / (2 * kw false))
  generalize blkH false T (startH false F 8) (padded false m) ((padded false m).length / (2 * kw false)) = H at *
  obtain ⟨a, b, c, d, e, f, g, k, rfl⟩ := list8 H hl
  simp [word_len, kw]
theorem arr32_size : (Tryd.prog.info? 24).map (·.size) = some 32 := by kernel_rfl
set_option maxHeartbeats 4000000 in
theorem sum256_ok (T F : List Int) (bk o c : Nat) (xs : List ByteArray) (w : World) (hT : ShaT w T F) (hc : ∀ (j : Nat) x, xs[j]? = some x → w.cell? ⟨bk, o + j, none⟩ = some (.string x)) (hbk : bk < w.heap.size) (hxl : xs.length ≤ 1000) (hcap : xs.length ≤ c) (hlen : (catL xs).length ≤ 1000000)
    (hg1 : 5 < w.heap.size) (hg2 : 4 < w.heap.size) :
    Calls Tryd.prog 6 #[.slice (some ⟨bk, o, none⟩) xs.length c] w fun e w' => e = .returned (.agg (byv (sumF false T F (catL xs))).toArray) ∧ Below w.heap.size w w' := by
  have hsum : Hid (∀ w', Below w.heap.size w w' → Calls Tryd.prog 17 #[.agg (kb false).toArray, .slice (some ⟨bk, o, none⟩) xs.length c] w' fun e w'' => e = .returned (.string (by8 (sumF false T F (catL xs)))) ∧ Below w'.heap.size w' w'') := Lib.hid fun w' hb => by
    have hs := hb.size
    exact sum_ok false T F bk o c xs w' (hT.below hb) (fun j x hj => by rw [← hc j x hj]; exact World.cell?_of_block (w := w) (hb.block _ hbk)) (by omega) hxl hcap hlen (by omega) (by omega)
  have hl := sum256_len T F (catL xs) hT.f
  generalize sumF false T F (catL xs) = R at *
  have LR : Hid ((byv R).length = 32) := Lib.hid (by rw [byv_len]; exact hl)
  have hRs : (by8 R).size = 32 := by rw [by8_size]; exact hl
  clear hT hc hlen hg1 hg2
  go_enter Tryd.func6, Tryd.ntmps6
  go_upto_region 1 with fail
  refine wp_gen (fun wx => Blk wx w.heap.size 24 (iv .u8 (List.replicate 32 0)) ∧ Below w.heap.size w wx) ⟨Blk.new w _ (iv .u8 (List.replicate 32 0)), below1 _ _⟩ ?_
  rintro w1 ⟨B1, BW⟩
  have H1 := Lib.hid (And.intro B1 BW)
  clear B1 BW
  have harr : R.length ≤ 1000000 := by omega
  have LZ : Hid ((iv .u8 (List.replicate 32 0)).length = 32) := Lib.hid rfl
  go_wp2_with (first
    | (go_at_call 16; refine (kind256_ok _).mono ?_; rintro e w2 ⟨rfl, hb2⟩)
    | (go_at_call 17; refine (hsum.out _ (Rw.out H1.out.2 hb2)).mono ?_; rintro e w3 ⟨rfl, hb3⟩; have hcv := run_by w3 9 25 5 (by8 R) Tryd.underlying9 Tryd.underlying25 Tryd.underlying5; obtain ⟨cp, hv, hcp, hrg, hrw⟩ := by_arr w3 5 R harr; rw [hv] at hcv; generalize byWorld w3 5 (by8 R) = w4 at hcv hrg hrw; have HR := Lib.hid (And.intro hrg hrw); have hat := fun w' => run_arrayAt Tryd.underlying24 ⟨w3.heap.size, 0, none⟩ 32 cp (Nat.le_refl _) w'; clear hrg hrw hv)
    | refine wpList_load_mid rfl 24 (.tmp 7) rfl w3.heap.size 0 rfl (byv R) _ HR.out.1 Tryd.underlying24 rfl (by rw [LR.out]; exact arr32_size) ?_
    | refine store_blk (H1.out.1.rw (Rw.trans hb2 (Rw.trans hb3 HR.out.2))) arr32_size LR.out LZ.out (byv_one _) rfl rfl rfl rfl ?_)
  exact ret_blk rfl ((H1.out.1.rw (Rw.trans hb2 (Rw.trans hb3 HR.out.2))).setRow _) Tryd.underlying24 rfl arr32_size LR.out rfl rfl ⟨rfl, below_row (Rw.out H1.out.2 (Rw.trans hb2 (Rw.trans hb3 HR.out.2))) _ _ (Nat.le_refl _)⟩
end Go.Proofs.YtppjniogblgdcaaDoor
