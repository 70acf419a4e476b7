/-
sha2: Sum256, Sum512.
sha2: Sum512.
The laid variables of a row, one by one; sha2's tables.
A drifting head whose values the walk finds; its tail: a new variable, and its value.
Openers of a law's arguments: strings, numbers, slices of numbers: plain facts on cells out of a reading.
Numbers by digits of base 65536, the lowest first: plain facts, no program in sight.
The document's numbers in digits of 16 bits: the contracts of its sums.
The document's numbers in digits of 16 bits: differences, small numbers, powers of two, comparing.
-/
import Derived.Lib.LaidTab
import Derived.KernelRfl
import Derived.Test.YtkhdhiddhnmdkaaGreatDoorRows
import Derived.LoopTactic
import Derived.Outline
import Derived.Test.YtkhdhiddhnmdkaaGreatDoorPk07
import Derived.Test.YtkhdhiddhnmdkaaGreatDoorPk04
import Derived.Test.YtkhdhiddhnmdkaaGreatDoorPk01
namespace Go.Proofs.YtkhdhiddhnmdkaaGreatDoor
open Go.RowKit Sha
set_option maxRecDepth 100000
theorem kb_len (b : Bool) : (kb b).length = 14 := by rw [iv_len]; cases b <;> rfl
/-- '[]byte(s)', looked at as an array -/
theorem by_arr (w : World) (e : TypeId) (l : List UInt8) (hl : l.length ≤ 1000000) : ∃ cp, byVal w e (by8 l) = .slice (some ⟨w.heap.size, 0, none⟩) l.length cp ∧ l.length ≤ cp ∧ (byWorld w e (by8 l)).rangeAt w.heap.size 0 (byv l) ∧ Rw w (byWorld w e (by8 l)) := by
  have hs := by8_size l
  have hsg := by_sg w e (by8 l) (by rw [hs]; unfold maxLen; omega)
  have hv : byVal w e (by8 l) = .slice (some ⟨w.heap.size, 0, none⟩) l.length (grownCap w l.length 0 e) := by unfold byVal; rw [hs]
  refine ⟨_, hv, grownCap_ge w l.length 0 e, fun j v hj => ?_, by_below w e (by8 l)⟩
  rw [hv, hs] at hsg
  obtain ⟨_, ao, cap, he, hn, _, hc⟩ := hsg
  have hjl : j < l.length := by
    have := (List.getElem?_eq_some_iff.1 hj).1
    rwa [byv_len] at this
  simp only [Value.slice.injEq] at he
  obtain ⟨rfl, _, rfl⟩ := he
  rcases hc with h0 | ⟨g, off, he, _, _, hx⟩
  · omega
  · simp only [Option.some.injEq, Addr.mk.injEq] at he
    obtain ⟨rfl, rfl, _⟩ := he
    rw [hx j (by omega)]
    exact hj
theorem run_arrayAt {P : Program} {t e : TypeId} {n : Nat} (ht : P.underlying t = some (.array n e)) (a : Addr) (len cap : Nat) (h : n ≤ len) (w : World) : (Instr.arrayAt t (.slice (some a) len cap)).run P w = .ok (.pointer (some a)) w := by
  simp [Instr.arrayAt, run_underlying ht, Nat.not_lt.2 h]
theorem kind256_ok (w : World) : Calls Tryz.prog 30 #[] w fun e w' => e = .returned (.agg (kb false).toArray) ∧ Below w.heap.size w w' := by
  have LK := Lib.hid (kb_len false)
  go_enter Tryz.func30, Tryz.ntmps30
  have NB : Blk (w.alloc (.cells (iv .i64 (List.replicate 14 0)).toArray 62)) w.heap.size 62 (iv .i64 (List.replicate 14 0)) := Blk.new _ _ _
  go_upto_region 1 with fail
  refine wp_gen (fun wx => Blk wx w.heap.size 62 (iv .i64 (List.replicate 14 0)) ∧ Below w.heap.size w wx) ⟨NB, below1 _ _⟩ ?_
  rintro w1 ⟨B1, BW⟩
  clear NB
  have hag : (#[Value.int .i64 32, .int .i64 64, .int .i64 7, .int .i64 18, .int .i64 3, .int .i64 17, .int .i64 19, .int .i64 10, .int .i64 2, .int .i64 13, .int .i64 22, .int .i64 6, .int .i64 11, .int .i64 25] : Array Value) = (kb false).toArray := rfl
  go_wp2_with (refine store_blk (cs := kb false) B1 kind_size LK.out rfl (iv_one _ _) rfl rfl rfl rfl ?_)
  exact ret_blk rfl (B1.setRow _) Tryz.underlying62 rfl kind_size LK.out rfl rfl ⟨rfl, below_row BW _ _ (Nat.le_refl _)⟩
theorem sum256_len (T F : List Int) (m : List UInt8) (_hF : F.length = 8) : (sumF false T F m).length = 32 := by
  unfold sumF outL
  have hl := blk_len false T (startH false F 8) (padded false m) (start_len false F 8) ((padded false m).length / (2 * kw false))
  generalize blkH false T (startH false F 8) (padded false m) ((padded false m).length / (2 * kw false)) = H at *
  obtain ⟨a, b, c, d, e, f, g, k, rfl⟩ := list8 H hl
  simp [word_len, kw]
theorem arr32z_size : (Tryz.prog.info? 48).map (·.size) = some 32 := by kernel_rfl
set_option maxHeartbeats 4000000 in
theorem sum256_ok (T F : List Int) (bk o c : Nat) (xs : List ByteArray) (w : World) (hT : ShaT w T F) (hc : ∀ (j : Nat) x, xs[j]? = some x → w.cell? ⟨bk, o + j, none⟩ = some (.string x)) (hbk : bk < w.heap.size) (hxl : xs.length ≤ 1000) (hcap : xs.length ≤ c) (hlen : (catL xs).length ≤ 1000000)
    (hg1 : 3 < w.heap.size) (_hg2 : 2 < w.heap.size) :
    Calls Tryz.prog 18 #[.slice (some ⟨bk, o, none⟩) xs.length c] w fun e w' => e = .returned (.agg (byv (sumF false T F (catL xs))).toArray) ∧ Below w.heap.size w w' := by
  have hsum : Hid (∀ w', Below w.heap.size w w' → Calls Tryz.prog 31 #[.agg (kb false).toArray, .slice (some ⟨bk, o, none⟩) xs.length c] w' fun e w'' => e = .returned (.string (by8 (sumF false T F (catL xs)))) ∧ Below w'.heap.size w' w'') := Lib.hid fun w' hb => by
    have hs := hb.size
    exact sum_ok false T F bk o c xs w' (hT.below hb) (fun j x hj => by rw [← hc j x hj]; exact World.cell?_of_block (w := w) (hb.block _ hbk)) (by omega) hxl hcap hlen (by omega) (by omega)
  have hl := sum256_len T F (catL xs) hT.f
  generalize sumF false T F (catL xs) = R at *
  have LR : Hid ((byv R).length = 32) := Lib.hid (by rw [byv_len]; exact hl)
  have hRs : (by8 R).size = 32 := by rw [by8_size]; exact hl
  clear hT hc hlen hg1 _hg2
  go_enter Tryz.func18, Tryz.ntmps18
  go_upto_region 1 with fail
  refine wp_gen (fun wx => Blk wx w.heap.size 48 (iv .u8 (List.replicate 32 0)) ∧ Below w.heap.size w wx) ⟨Blk.new w _ (iv .u8 (List.replicate 32 0)), below1 _ _⟩ ?_
  rintro w1 ⟨B1, BW⟩
  have H1 := Lib.hid (And.intro B1 BW)
  clear B1 BW
  have harr : R.length ≤ 1000000 := by omega
  have LZ : Hid ((iv .u8 (List.replicate 32 0)).length = 32) := Lib.hid rfl
  go_wp2_with (first
    | (go_at_call 30; refine (kind256_ok _).mono ?_; rintro e w2 ⟨rfl, hb2⟩)
    | (go_at_call 31; refine (hsum.out _ (Rw.out H1.out.2 hb2)).mono ?_; rintro e w3 ⟨rfl, hb3⟩; have hcv := run_by w3 9 50 5 (by8 R) Tryz.underlying9 Tryz.underlying50 Tryz.underlying5; obtain ⟨cp, hv, hcp, hrg, hrw⟩ := by_arr w3 5 R harr; rw [hv] at hcv; generalize byWorld w3 5 (by8 R) = w4 at hcv hrg hrw; have HR := Lib.hid (And.intro hrg hrw); have hat := fun w' => run_arrayAt Tryz.underlying48 ⟨w3.heap.size, 0, none⟩ 32 cp (Nat.le_refl _) w'; clear hrg hrw hv)
    | refine wpList_load_mid rfl 48 (.tmp 7) rfl w3.heap.size 0 rfl (byv R) _ HR.out.1 Tryz.underlying48 rfl (by rw [LR.out]; exact arr32z_size) ?_
    | refine store_blk (H1.out.1.rw (Rw.trans hb2 (Rw.trans hb3 HR.out.2))) arr32z_size LR.out LZ.out (byv_one _) rfl rfl rfl rfl ?_)
  exact ret_blk rfl ((H1.out.1.rw (Rw.trans hb2 (Rw.trans hb3 HR.out.2))).setRow _) Tryz.underlying48 rfl arr32z_size LR.out rfl rfl ⟨rfl, below_row (Rw.out H1.out.2 (Rw.trans hb2 (Rw.trans hb3 HR.out.2))) _ _ (Nat.le_refl _)⟩
end Go.Proofs.YtkhdhiddhnmdkaaGreatDoor

namespace Go.Proofs.YtkhdhiddhnmdkaaGreatDoor
open Go.RowKit Sha
set_option maxRecDepth 100000
theorem kind512_ok (w : World) : Calls Tryz.prog 92 #[] w fun e w' => e = .returned (.agg (kb true).toArray) ∧ Below w.heap.size w w' := by
  have LK := Lib.hid (kb_len true)
  go_enter Tryz.func92, Tryz.ntmps92
  have NB : Blk (w.alloc (.cells (iv .i64 (List.replicate 14 0)).toArray 62)) w.heap.size 62 (iv .i64 (List.replicate 14 0)) := Blk.new _ _ _
  go_upto_region 1 with fail
  refine wp_gen (fun wx => Blk wx w.heap.size 62 (iv .i64 (List.replicate 14 0)) ∧ Below w.heap.size w wx) ⟨NB, below1 _ _⟩ ?_
  rintro w1 ⟨B1, BW⟩
  clear NB
  have hag : (#[Value.int .i64 64, .int .i64 80, .int .i64 1, .int .i64 8, .int .i64 7, .int .i64 19, .int .i64 61, .int .i64 6, .int .i64 28, .int .i64 34, .int .i64 39, .int .i64 14, .int .i64 18, .int .i64 41] : Array Value) = (kb true).toArray := rfl
  go_wp2_with (refine store_blk (cs := kb true) B1 kind_size LK.out rfl (iv_one _ _) rfl rfl rfl rfl ?_)
  exact ret_blk rfl (B1.setRow _) Tryz.underlying62 rfl kind_size LK.out rfl rfl ⟨rfl, below_row BW _ _ (Nat.le_refl _)⟩
theorem sum512_len (T F : List Int) (m : List UInt8) (_hF : F.length = 8) : (sumF true T F m).length = 64 := by
  unfold sumF outL
  have hl := blk_len true T (startH true F 8) (padded true m) (start_len true F 8) ((padded true m).length / (2 * kw true))
  generalize blkH true T (startH true F 8) (padded true m) ((padded true m).length / (2 * kw true)) = H at *
  obtain ⟨a, b, c, d, e, f, g, k, rfl⟩ := list8 H hl
  simp [word_len, kw]
theorem arr64s_size : (Tryz.prog.info? 55).map (·.size) = some 64 := by kernel_rfl
set_option maxHeartbeats 4000000 in
theorem sum512_ok (T F : List Int) (bk o c : Nat) (xs : List ByteArray) (w : World) (hT : ShaT w T F) (hc : ∀ (j : Nat) x, xs[j]? = some x → w.cell? ⟨bk, o + j, none⟩ = some (.string x)) (hbk : bk < w.heap.size) (hxl : xs.length ≤ 1000) (hcap : xs.length ≤ c) (hlen : (catL xs).length ≤ 1000000)
    (hg1 : 3 < w.heap.size) (_hg2 : 2 < w.heap.size) :
    Calls Tryz.prog 64 #[.slice (some ⟨bk, o, none⟩) xs.length c] w fun e w' => e = .returned (.agg (byv (sumF true T F (catL xs))).toArray) ∧ Below w.heap.size w w' := by
  have hsum : Hid (∀ w', Below w.heap.size w w' → Calls Tryz.prog 31 #[.agg (kb true).toArray, .slice (some ⟨bk, o, none⟩) xs.length c] w' fun e w'' => e = .returned (.string (by8 (sumF true T F (catL xs)))) ∧ Below w'.heap.size w' w'') := Lib.hid fun w' hb => by
    have hs := hb.size
    exact sum_ok true T F bk o c xs w' (hT.below hb) (fun j x hj => by rw [← hc j x hj]; exact World.cell?_of_block (w := w) (hb.block _ hbk)) (by omega) hxl hcap hlen (by omega) (by omega)
  have hl := sum512_len T F (catL xs) hT.f
  generalize sumF true T F (catL xs) = R at *
  have LR : Hid ((byv R).length = 64) := Lib.hid (by rw [byv_len]; exact hl)
  have hRs : (by8 R).size = 64 := by rw [by8_size]; exact hl
  clear hT hc hlen hg1 _hg2
  go_enter Tryz.func64, Tryz.ntmps64
  go_upto_region 1 with fail
  refine wp_gen (fun wx => Blk wx w.heap.size 55 (iv .u8 (List.replicate 64 0)) ∧ Below w.heap.size w wx) ⟨Blk.new w _ (iv .u8 (List.replicate 64 0)), below1 _ _⟩ ?_
  rintro w1 ⟨B1, BW⟩
  have H1 := Lib.hid (And.intro B1 BW)
  clear B1 BW
  have harr : R.length ≤ 1000000 := by omega
  have LZ : Hid ((iv .u8 (List.replicate 64 0)).length = 64) := Lib.hid rfl
  go_wp2_with (first
    | (go_at_call 92; refine (kind512_ok _).mono ?_; rintro e w2 ⟨rfl, hb2⟩)
    | (go_at_call 31; refine (hsum.out _ (Rw.out H1.out.2 hb2)).mono ?_; rintro e w3 ⟨rfl, hb3⟩; have hcv := run_by w3 9 50 5 (by8 R) Tryz.underlying9 Tryz.underlying50 Tryz.underlying5; obtain ⟨cp, hv, hcp, hrg, hrw⟩ := by_arr w3 5 R harr; rw [hv] at hcv; generalize byWorld w3 5 (by8 R) = w4 at hcv hrg hrw; have HR := Lib.hid (And.intro hrg hrw); have hat := fun w' => run_arrayAt Tryz.underlying55 ⟨w3.heap.size, 0, none⟩ 64 cp (Nat.le_refl _) w'; clear hrg hrw hv)
    | refine wpList_load_mid rfl 55 (.tmp 7) rfl w3.heap.size 0 rfl (byv R) _ HR.out.1 Tryz.underlying55 rfl (by rw [LR.out]; exact arr64s_size) ?_
    | refine store_blk (H1.out.1.rw (Rw.trans hb2 (Rw.trans hb3 HR.out.2))) arr64s_size LR.out LZ.out (byv_one _) rfl rfl rfl rfl ?_)
  exact ret_blk rfl ((H1.out.1.rw (Rw.trans hb2 (Rw.trans hb3 HR.out.2))).setRow _) Tryz.underlying55 rfl arr64s_size LR.out rfl rfl ⟨rfl, below_row (Rw.out H1.out.2 (Rw.trans hb2 (Rw.trans hb3 HR.out.2))) _ _ (Nat.le_refl _)⟩
theorem catL_one (m : List UInt8) : catL [by8 m] = m := by simp [catL, by8]
theorem catL_cons (m : List UInt8) (xs : List ByteArray) : catL (by8 m :: xs) = m ++ catL xs := by simp [catL, by8]
/-- the globals of sha2 lie in the world -/
def ShaG (w : World) : Prop := 3 < w.heap.size ∧ 2 < w.heap.size
def S512 (T F : List Int) (m : List UInt8) : List UInt8 := sumF true T F m
theorem sum512_at {T F : List Int} {w0 : World} (hT : ShaT w0 T F) (hg : ShaG w0) (bk : Nat) (ty : TypeId) (xs : List ByteArray) (n c : Nat) (hn : n = xs.length) (hxl : xs.length ≤ 1000) (hcap : xs.length ≤ c) (hlen : (catL xs).length ≤ 1000000)
    {w : World} (hb : Below w0.heap.size w0 w) (hB : Blk w bk ty (xs.map .string)) :
    Calls Tryz.prog 64 #[.slice (some ⟨bk, 0, none⟩) n c] w fun e w' => e = .returned (.agg (byv (S512 T F (catL xs))).toArray) ∧ Below w.heap.size w w' := by
  have hs := hb.size
  have := hg.1
  have := hg.2
  subst hn
  refine sum512_ok T F bk 0 c xs w (hT.below hb) (fun j x hj => ?_) hB.lt hxl hcap hlen (by omega) (by omega)
  rw [Nat.zero_add]
  exact hB.cell j _ (by rw [List.getElem?_map, hj]; rfl)
theorem S512_len {w : World} {T F : List Int} (hT : ShaT w T F) (m : List UInt8) : (S512 T F m).length = 64 := sum512_len T F m hT.f
end Go.Proofs.YtkhdhiddhnmdkaaGreatDoor

namespace Go.Proofs.YtkhdhiddhnmdkaaGreatDoor
open Go.RowKit Sha
set_option maxRecDepth 100000
def LV (laid : List (String × DataW Unit)) (W : World) : Prop := ∃ ps, DataW.LaidVars Tryz.prog W laid ps
theorem LV.tail {x : String × DataW Unit} {r : List (String × DataW Unit)} {W : World} (h : LV (x :: r) W) : LV r W := by
  obtain ⟨ps, g, t, cs, fuel, p, q, _, _, _, _, h2, _⟩ := h
  exact ⟨q, h2⟩
theorem LV.tab {W : World} {name : String} {k : IntKind} {zs : List Int} {rest : List (String × DataW Unit)} {g : Nat} {t e : TypeId} {n : Nat}
    (hg : Tryz.prog.globalNamed name = some g) (hty : (Tryz.prog.globals[g]?).map (·.type) = some t) (ht : Tryz.prog.underlying t = some (.array n e)) (he : Tryz.prog.underlying e = some (.int k)) (hce : Tryz.prog.cellsOf e = 1) (hct : Tryz.prog.cellsOf t = n)
    (h : LV ((name, Lib.tabData k zs) :: rest) W) : Lib.TabIs Tryz.prog W name k zs := by
  obtain ⟨ps, g', t', cs, fuel, p, q, hg', ht', hvar, hd, _, _⟩ := h
  obtain rfl := Option.some.inj (hg.symm.trans hg')
  obtain rfl := Option.some.inj (hty.symm.trans ht')
  unfold Lib.TabIs
  rw [hvar, ← Lib.cells_of_tab ht he hce hct hd]
theorem cell_lt' {W : World} {g i : Nat} {v : Value} (h : W.cell? ⟨g, i, none⟩ = some v) : g < W.heap.size := by
  rcases Nat.lt_or_ge g W.heap.size with h' | h'
  · exact h'
  · simp [World.cell?, Array.getElem?_eq_none h'] at h
def dInts : DataW Unit → List Int
  | .agg l => l.map fun | .lit (.int _ z) => z | _ => 0
  | _ => []
def wordsL : List Int := dInts Rows.laid_speakeasy_sha2_words
def firstL : List Int := dInts Rows.laid_speakeasy_sha2_first
theorem words_len : wordsL.length = 80 := by kernel_rfl
theorem first_len : firstL.length = 8 := by kernel_rfl
theorem sha_tabs {W : World} {r : List (String × DataW Unit)} (h : LV (("speakeasy/sha2.words", Rows.laid_speakeasy_sha2_words) :: ("speakeasy/sha2.first", Rows.laid_speakeasy_sha2_first) :: r) W) : ShaT W wordsL firstL ∧ ShaG W := by
  have h0 : LV (("speakeasy/sha2.words", Lib.tabData .u64 wordsL) :: ("speakeasy/sha2.first", Lib.tabData .u64 firstL) :: r) W := h
  have hW := LV.tab (g := 3) (t := 139) (e := 67) (n := 80) (by kernel_rfl) (by kernel_rfl) Tryz.underlying139 Tryz.underlying67 (by kernel_rfl) (by kernel_rfl) h0
  have hF := LV.tab (g := 2) (t := 103) (e := 67) (n := 8) (by kernel_rfl) (by kernel_rfl) Tryz.underlying103 Tryz.underlying67 (by kernel_rfl) (by kernel_rfl) h0.tail
  have hw := fun i (hi : i < 80) => hW.cell (g := 3) (by kernel_rfl) i (by rw [words_len]; exact hi)
  have hf := fun i (hi : i < 8) => hF.cell (g := 2) (by kernel_rfl) i (by rw [first_len]; exact hi)
  exact ⟨⟨words_len, first_len, hw, hf⟩, ⟨cell_lt' (hw 0 (by decide)), cell_lt' (hf 0 (by decide))⟩⟩
end Go.Proofs.YtkhdhiddhnmdkaaGreatDoor

namespace Go.Proofs.YtkhdhiddhnmdkaaGreatDoor
open Go.RowKit
section
variable {P : Program} {ops : Array Oper} {w0 : World} {a : Act} {o : Oper} {K : Act → Prop}
theorem drift_autoE (hg : Region.wanted o (yielded ops a.tmps) = true) (h : ∃ v, (∀ w, Rw w0 w → (execOp a.eval o).run P w = .ok (.value v) w) ∧ K (a.put o.dst v)) :
    if Region.wanted o (yielded ops a.tmps) then ∃ v, (∀ w, Rw w0 w → o.quietAt P a (Rw w) w v) ∧ K (a.put o.dst v) else K (a.put o.dst undef) := by
  obtain ⟨v, hv, hk⟩ := h
  exact drift_plain v hg hv hk
theorem drift_callE (hg : Region.wanted o (yielded ops a.tmps) = true) (h : ∃ f args, (∀ w, (execOp a.eval o).run P w = .ok (.enter f args) w) ∧ ∃ v, (∀ w, Rw w0 w → Calls P f args w fun e w' => e = .returned v ∧ Rw w w') ∧ K (a.put o.dst v)) :
    if Region.wanted o (yielded ops a.tmps) then ∃ v, (∀ w, Rw w0 w → o.quietAt P a (Rw w) w v) ∧ K (a.put o.dst v) else K (a.put o.dst undef) := by
  obtain ⟨f, args, hv, v, hc, hk⟩ := h
  exact drift_call v f args hg hv hc hk
/-- a new variable, and its value -/
theorem drift_newG {t n : Nat} {old l : List Value} {oa os : Oper} {KW : Act → World → Prop} {d : Tmp} {y : Operand}
    (hrun : ∀ w : World, (Instr.alloc t true (.tuple #[])).run P w = .ok (.pointer (some ⟨w.heap.size, 0, none⟩)) (w.alloc (.cells old.toArray t)))
    (hsz : (P.info? t).map (·.size) = some n) (ho : old.length = n) (hl : l.length = n) (h1 : ∀ v ∈ l, v.oneCell' = true)
    (ha : oa.op = .alloc t) (hga : oa.guard = none) (hd : oa.dst = some d)
    (hs : os.op = .store t (.tmp d) y) (hgs : os.guard = none) (hds : os.dst = none) (hdt : d < a.tmps.size) (hy : ∀ v, (a.put (some d) v).eval y = .agg l.toArray)
    (h : ∀ c w2, w0.heap.size ≤ c → Rw w0 w2 → Blk w2 c t l → KW (a.put (some d) (.pointer (some ⟨c, 0, none⟩))) w2) : wpListD P ops w0 KW [oa, os] a w0 := by
  refine driftT_step (fun w1 h1' Q' hQ' => ?_)
  have hz1 : w0.heap.size ≤ w1.heap.size := h1'.size
  have hW : Below w0.heap.size w0 (w1.alloc (.cells old.toArray t)) := Below.alloc h1' hz1 _
  refine wpList_plain hga fun K1 hK1 => ?_
  unfold Oper.wp execOp
  simp only [ha, Sem.run_bind, hrun w1, Result.andThen_ok, Sem.run_pure, Oper.upon]
  refine hK1 _ _ (hQ' _ _ hW ?_)
  rw [hd]
  refine driftT_step (fun w3 h3 Q2 hQ2 => ?_)
  have hb : Blk w3 w1.heap.size t old := (Blk.new w1 t old).below h3 (by simp)
  have hW3 : Below w0.heap.size w0 w3 := Rw.trans hW h3
  refine store_blk (n := n) (ty := t) (t := t) (b := w1.heap.size) (old := old) (cs := l) hb hsz hl ho h1 hgs hs ?_ (hy _) ?_
  · show (a.put (some d) _).tmps.getD d undef = _
    simp [Act.put, hdt]
  · refine hQ2 _ _ (below_row hW3 _ _ hz1) ?_
    rw [hds]
    intro w4 h4
    have hb4 := hb.setRow l
    have hW4 := Rw.trans (show Rw w0 (w3.setRow w1.heap.size l.toArray) from below_row hW3 _ _ hz1) h4
    exact h w1.heap.size w4 hz1 hW4 (hb4.below h4 hb4.lt)
theorem drift_loadN {b off ty : Nat} {d : TypeDesc} {x : Operand} {cs : List Value} (hb : ∀ w, Rw w0 w → w.rangeAt b off cs)
    (hu : P.underlying ty = some d) (hd : d.isRow = true) (hi : (P.info? ty).map (·.size) = some cs.length) (hg : Region.wanted o (yielded ops a.tmps) = true) (ho : o.op = .load ty x) (hx : a.eval x = .pointer (some ⟨b, off, none⟩)) (h : K (a.put o.dst (.agg cs.toArray))) :
    if Region.wanted o (yielded ops a.tmps) then ∃ v, (∀ w, Rw w0 w → o.quietAt P a (Rw w) w v) ∧ K (a.put o.dst v) else K (a.put o.dst undef) :=
  drift_plain (.agg cs.toArray) hg (fun w hw => by
    unfold execOp
    simp only [ho, hx, run_loadAt_mid w b off ty cs _ (hb w hw) hu hd hi, Sem.run_bind, Sem.run_pure, Result.andThen_ok]) h
end
end Go.Proofs.YtkhdhiddhnmdkaaGreatDoor

namespace Go.Proofs.YtkhdhiddhnmdkaaGreatDoor
open Go.RowKit Go.ChangeShapes Go.WideShapes Go.ChangeMaps

theorem cell_lt {w : World} {a : Addr} {v : Value} (h : w.cell? a = some v) : a.block < w.heap.size ∧ a.spot = none := by
  unfold World.cell? at h
  cases hh : w.heap[a.block]? with
  | none => rw [hh] at h; cases h
  | some o =>
    refine ⟨(Array.getElem?_eq_some_iff.1 hh).1, ?_⟩
    rw [hh] at h
    cases o <;> simp at h
    exact h.1

/-- A slice of numbers that came in: each element's cell. -/
theorem open_ints_at {H : Type} {enc : TypeId × Value → H} {P : Program} {w : World} {r : Reach} {b0 base : Nat} {sp : Nat → Bool} {held : Bool} {t e : TypeId} {k : IntKind} {v : Value} {d : DataW H} {ps : List MemPlace}
    (ht : P.underlying t = some (.slice e)) (he : P.underlying e = some (.int k)) (hc : P.cellsOf e = 1)
    (hval : Value.okWide P w r b0 t v) (h : DataW.Trod enc P w base sp held t v d ps) :
    ∃ (a : Option Addr) (len cap : Nat) (zs : List Int), v = .slice a len cap ∧ len ≤ cap ∧ cap ≤ maxLen ∧
      (∀ i, i < len → ∃ b off, a = some ⟨b, off, none⟩ ∧ w.cell? ⟨b, off + i, none⟩ = some (.int k (zs.getD i 0)) ∧ b < w.heap.size ∧ (Lit.int k (zs.getD i 0)).wf = true) := by
  obtain ⟨a0, len, cap, rfl⟩ := okWide_slice ht hval
  obtain ⟨fuel, hf⟩ := h
  rcases open_ints ht he hc hf with ⟨hcs, hx⟩ | ⟨a, len', cap', zs, hcs, _, hl, hm, hz, hx, hcell, hwz⟩
  · simp [Value.cells] at hcs
    obtain ⟨rfl, rfl, rfl⟩ := hcs
    exact ⟨none, 0, 0, [], rfl, Nat.le_refl _, Nat.zero_le _, fun i hi => absurd hi (Nat.not_lt_zero _)⟩
  · simp [Value.cells] at hcs
    obtain ⟨rfl, rfl, rfl⟩ := hcs
    refine ⟨some a, len, cap, zs, rfl, hl, hm, fun i hi => ?_⟩
    have hi' : i < zs.length := by rw [hz]; split <;> omega
    have hci := hcell i hi'
    have h00 := hcell 0 (by omega)
    rw [Addr.add_zero'] at h00
    have hlt := cell_lt h00
    obtain ⟨b, off, s⟩ := a
    have hs : s = none := hlt.2
    subst hs
    rw [Addr.add_lit] at hci
    refine ⟨b, off, rfl, hci, hlt.1, ?_⟩
    have : zs.getD i 0 ∈ zs := by
      rw [List.getD_eq_getElem?_getD, List.getElem?_eq_getElem hi']; exact List.getElem_mem hi'
    exact hwz _ this
end Go.Proofs.YtkhdhiddhnmdkaaGreatDoor

namespace Go.Proofs.YtkhdhiddhnmdkaaGreatDoor

/-- the number that digits write -/
def bv : List Nat → Nat
  | [] => 0
  | d :: r => d + 65536 * bv r
/-- all are digits -/
def Sm (l : List Nat) : Prop := ∀ d ∈ l, d < 65536
/-- digits without a 0 above -/
def Can (l : List Nat) : Prop := Sm l ∧ ∀ d, l.getLast? = some d → 0 < d

@[simp] theorem bv_nil : bv [] = 0 := rfl
@[simp] theorem bv_cons (d : Nat) (r : List Nat) : bv (d :: r) = d + 65536 * bv r := rfl
theorem bv_append (a b : List Nat) : bv (a ++ b) = bv a + 65536 ^ a.length * bv b := by
  induction a with
  | nil => simp
  | cons d r ih =>
    simp only [List.cons_append, bv_cons, ih, List.length_cons, Nat.pow_succ]
    rw [Nat.mul_add, ← Nat.mul_assoc, Nat.mul_comm 65536 (65536 ^ r.length), Nat.add_assoc]
theorem bv_snoc (a : List Nat) (d : Nat) : bv (a ++ [d]) = bv a + 65536 ^ a.length * d := by rw [bv_append]; simp
theorem Sm.nil : Sm [] := fun _ h => by cases h
theorem Sm.append {a b : List Nat} (ha : Sm a) (hb : Sm b) : Sm (a ++ b) := fun d h => by
  rcases List.mem_append.1 h with h | h
  · exact ha d h
  · exact hb d h
theorem Sm.snoc {a : List Nat} {d : Nat} (ha : Sm a) (hd : d < 65536) : Sm (a ++ [d]) := ha.append fun x h => by
  rcases List.mem_singleton.1 h with rfl; exact hd
theorem Sm.take {a : List Nat} (ha : Sm a) (n : Nat) : Sm (a.take n) := fun d h => ha d (List.mem_of_mem_take h)
theorem Sm.drop {a : List Nat} (ha : Sm a) (n : Nat) : Sm (a.drop n) := fun d h => ha d (List.mem_of_mem_drop h)
theorem Sm.getD {a : List Nat} (ha : Sm a) (n : Nat) : a.getD n 0 < 65536 := by
  rcases Nat.lt_or_ge n a.length with h | h
  · rw [List.getD_eq_getElem?_getD, List.getElem?_eq_getElem h]
    exact ha _ (List.getElem_mem h)
  · rw [List.getD_eq_getElem?_getD, List.getElem?_eq_none h]; decide
theorem Sm.set {a : List Nat} (ha : Sm a) (n d : Nat) (hd : d < 65536) : Sm (a.set n d) := fun x h => by
  rcases List.mem_or_eq_of_mem_set h with h | rfl
  · exact ha x h
  · exact hd
theorem bv_lt {l : List Nat} (h : Sm l) : bv l < 65536 ^ l.length := by
  induction l with
  | nil => simp
  | cons d r ih =>
    have hd := h d (by simp)
    have := ih (fun x hx => h x (by simp [hx]))
    simp only [bv_cons, List.length_cons, Nat.pow_succ]
    omega
theorem take_succ_getD (l : List Nat) (k : Nat) (h : k < l.length) : l.take (k + 1) = l.take k ++ [l.getD k 0] := by
  rw [List.take_succ_eq_append_getElem h, List.getD_eq_getElem?_getD, List.getElem?_eq_getElem h]; rfl
theorem bv_take_succ (l : List Nat) (k : Nat) (h : k < l.length) : bv (l.take (k + 1)) = bv (l.take k) + 65536 ^ k * l.getD k 0 := by
  rw [take_succ_getD l k h, bv_snoc, List.length_take, Nat.min_eq_left (Nat.le_of_lt h)]
theorem bv_take_ge (l : List Nat) (k : Nat) (h : l.length ≤ k) : bv (l.take k) = bv l := by rw [List.take_of_length_le h]
theorem bv_take_drop (l : List Nat) (k : Nat) (h : k ≤ l.length) : bv l = bv (l.take k) + 65536 ^ k * bv (l.drop k) := by
  conv => lhs; rw [← List.take_append_drop k l]
  rw [bv_append, List.length_take, Nat.min_eq_left h]
/-- the next digit of a number that may have ended -/
theorem bv_take_next (l : List Nat) (k : Nat) : bv (l.take (k + 1)) = bv (l.take k) + 65536 ^ k * l.getD k 0 := by
  rcases Nat.lt_or_ge k l.length with h | h
  · exact bv_take_succ l k h
  · rw [bv_take_ge l _ h, bv_take_ge l _ (by omega), List.getD_eq_getElem?_getD, List.getElem?_eq_none h]; simp
theorem bv_set (l : List Nat) (k d : Nat) (h : k < l.length) : bv (l.set k d) + 65536 ^ k * l.getD k 0 = bv l + 65536 ^ k * d := by
  induction l generalizing k with
  | nil => simp at h
  | cons x r ih =>
    cases k with
    | zero => simp; omega
    | succ k =>
      have := ih k (by simpa using h)
      simp only [List.set_cons_succ, bv_cons, List.getD_cons_succ, Nat.pow_succ]
      rw [Nat.mul_comm (65536 ^ k) 65536, Nat.mul_assoc, Nat.mul_assoc]
      omega
theorem bv_zero {l : List Nat} (h : ∀ d ∈ l, d = 0) : bv l = 0 := by
  induction l with
  | nil => rfl
  | cons d r ih =>
    have := h d (by simp)
    have := ih (fun x hx => h x (by simp [hx]))
    simp [*]
theorem bv_replicate (n : Nat) : bv (List.replicate n 0) = 0 := bv_zero fun _ h => (List.mem_replicate.1 h).2

theorem Can.nil : Can [] := ⟨Sm.nil, fun d h => by simp at h⟩
theorem Can.tail {d : Nat} {r : List Nat} (h : Can (d :: r)) : Can r := by
  refine ⟨fun x hx => h.1 x (by simp [hx]), fun x hx => h.2 x ?_⟩
  cases r with
  | nil => simp at hx
  | cons y r => rw [List.getLast?_cons_cons]; exact hx
theorem Can.zero {l : List Nat} (h : Can l) (hz : bv l = 0) : l = [] := by
  induction l with
  | nil => rfl
  | cons d r ih =>
    simp only [bv_cons] at hz
    have hr := ih h.tail (by omega)
    subst hr
    have := h.2 d (by simp)
    omega
/-- the digits of a number are its own -/
theorem Can.unique {a b : List Nat} (ha : Can a) (hb : Can b) (h : bv a = bv b) : a = b := by
  induction a generalizing b with
  | nil => exact (hb.zero (by simpa using h.symm)).symm
  | cons d r ih =>
    cases b with
    | nil => exact ha.zero (by simpa using h)
    | cons e q =>
      have h1 := ha.1 d (by simp)
      have h2 := hb.1 e (by simp)
      simp only [bv_cons] at h
      obtain rfl : d = e := by omega
      rw [ih ha.tail hb.tail (by omega)]
theorem Can.lower {l : List Nat} (h : Can l) (hne : l ≠ []) : 65536 ^ (l.length - 1) ≤ bv l := by
  obtain ⟨a, d, rfl⟩ : ∃ a d, l = a ++ [d] := ⟨l.dropLast, l.getLast hne, (List.dropLast_concat_getLast hne).symm⟩
  have hd := h.2 d (by simp)
  rw [bv_snoc, List.length_append, List.length_singleton, Nat.add_sub_cancel]
  calc 65536 ^ a.length = 65536 ^ a.length * 1 := (Nat.mul_one _).symm
    _ ≤ 65536 ^ a.length * d := Nat.mul_le_mul_left _ hd
    _ ≤ _ := Nat.le_add_left _ _
/-- fewer digits: less -/
theorem Can.lt_of_length {a b : List Nat} (ha : Sm a) (hb : Can b) (h : a.length < b.length) : bv a < bv b := by
  have h1 := bv_lt ha
  have h2 := hb.lower (by rintro rfl; simp at h)
  have h3 : 65536 ^ a.length ≤ 65536 ^ (b.length - 1) := Nat.pow_le_pow_right (by decide) (by omega)
  omega
/-- what 'trim' leaves: up to the last digit that isn't 0 -/
theorem trim_can {l : List Nat} (hs : Sm l) (n : Nat) (hn : n ≤ l.length) (hz : ∀ k, n ≤ k → k < l.length → l.getD k 0 = 0) (hl : 0 < n → 0 < l.getD (n - 1) 0) : Can (l.take n) ∧ bv (l.take n) = bv l := by
  refine ⟨⟨hs.take n, fun d hd => ?_⟩, ?_⟩
  · rcases Nat.eq_zero_or_pos n with rfl | hp
    · simp at hd
    · have e : l.take n = l.take (n - 1) ++ [l.getD (n - 1) 0] := by
        have := take_succ_getD l (n - 1) (by omega)
        rwa [Nat.sub_add_cancel hp] at this
      rw [e, List.getLast?_append] at hd
      simp at hd
      have := hl hp
      simp at this
      omega
  · rw [bv_take_drop l n hn, bv_zero (l := l.drop n), Nat.mul_zero, Nat.add_zero]
    intro d hd
    obtain ⟨i, hi, rfl⟩ := List.mem_iff_getElem.1 hd
    simp only [List.length_drop] at hi
    have := hz (n + i) (by omega) (by omega)
    rw [List.getD_eq_getElem?_getD, List.getElem?_eq_getElem (by omega)] at this
    simpa using this
end Go.Proofs.YtkhdhiddhnmdkaaGreatDoor

namespace Go.Proofs.YtkhdhiddhnmdkaaGreatDoor
open Go.RowKit

/-- a slice that reads as digits -/
def DigAt (w : World) (v : Value) (l : List Nat) : Prop :=
  Sm l ∧ ∃ a cap, v = .slice a l.length cap ∧ l.length ≤ cap ∧ cap ≤ maxLen ∧ ∀ i, i < l.length → ∃ b off, a = some ⟨b, off, none⟩ ∧ w.cell? ⟨b, off + i, none⟩ = some (.int .i64 (l.getD i 0 : Nat))
/-- .. as a number -/
def Num (w : World) (v : Value) (n : Nat) : Prop := ∃ l, DigAt w v l ∧ Can l ∧ bv l = n
theorem DigAt.below {w w' : World} {v : Value} {l : List Nat} (h : DigAt w v l) (hb : Below w.heap.size w w') : DigAt w' v l := by
  obtain ⟨hs, a, cap, rfl, h1, h2, hc⟩ := h
  refine ⟨hs, a, cap, rfl, h1, h2, fun i hi => ?_⟩
  obtain ⟨b, off, ha, hci⟩ := hc i hi
  exact ⟨b, off, ha, by rw [hb.cell (cell_lt hci).1]; exact hci⟩
theorem Num.below {w w' : World} {v : Value} {n : Nat} (h : Num w v n) (hb : Below w.heap.size w w') : Num w' v n := by
  obtain ⟨l, hd, hc, hn⟩ := h
  exact ⟨l, hd.below hb, hc, hn⟩
theorem DigAt.small {w : World} {v : Value} {l : List Nat} (h : DigAt w v l) : Sm l := h.1

theorem digInfo : (Tryz.prog.info? 3).map (fun i => (i.zero, i.size, i.bytes)) = some (some (.int .i64 0), 1, 8) := by kernel_rfl
/-- the values of digits -/
def dvals (l : List Nat) : List Value := l.map fun d => Value.int .i64 (d : Nat)
theorem dvals_snoc (l : List Nat) (d : Nat) : dvals (l ++ [d]) = dvals l ++ [.int .i64 d] := by simp [dvals]
theorem dvals_length (l : List Nat) : (dvals l).length = l.length := by simp [dvals]
/-- a row of the call's own reads as its digits -/
theorem dig_of_own {w : World} {base : Nat} {e : TypeId} {v : Value} {l : List Nat} (hs : Sm l) (h : w.ownsRow base e 1 v l.length (dvals l)) : DigAt w v l := by
  refine ⟨hs, ?_⟩
  obtain ⟨hlen, h⟩ := h
  rcases h with ⟨rfl, h0⟩ | ⟨g, cap, cur, rfl, hb, hg, hn, hm, hsz, htk⟩
  · exact ⟨none, 0, by rw [h0], by omega, Nat.zero_le _, fun i hi => by omega⟩
  · refine ⟨some ⟨g, 0, none⟩, cap, rfl, hn, hm, fun i hi => ⟨g, 0, rfl, ?_⟩⟩
    have h1 : (cur.toList.take (l.length * 1))[i]? = (dvals l)[i]? := by rw [htk]
    rw [Nat.mul_one, List.getElem?_take_of_lt hi] at h1
    simp only [World.cell?, hg, Option.isSome_none, Bool.false_eq_true, if_false, Nat.zero_add]
    rw [← Array.getElem?_toList, h1]
    simp [dvals, List.getElem?_eq_getElem hi]

/-- an append of one digit to a row of the call's own: what the walk wants -/
theorem own_one {w : World} {base : Nat} {e : TypeId} {v : Value} {l : List Nat} (h : w.ownsRow base e 1 v l.length (dvals l)) (o : Obj) : (w.alloc o).ownsRow base e 1 v l.length (dvals l) := h.alloc o

theorem one_cells (w : World) (e : TypeId) (y : Value) : ∀ (j : Nat) (u : Value), ([y] : List Value)[j]? = some u → (w.alloc (.cells #[y] e)).cell? ((⟨w.heap.size, 0, none⟩ : Addr).add j) = some u := by
  intro j u hj
  match j, hj with
  | 0, hj =>
    simp at hj
    subst hj
    simp [Addr.add]
theorem one_cell1 (k : IntKind) (n : Int) : ∀ u ∈ ([Value.int k n] : List Value), u.oneCell' = true := by
  intro u hu
  simp at hu
  subst hu
  rfl

theorem add_round {la lb lo : List Nat} {i c : Nat} (hl : lo.length = i) (h : bv lo + 65536 ^ i * c = bv (la.take i) + bv (lb.take i)) :
    bv (lo ++ [(c + la.getD i 0 + lb.getD i 0) % 65536]) + 65536 ^ (i + 1) * ((c + la.getD i 0 + lb.getD i 0) / 65536) = bv (la.take (i + 1)) + bv (lb.take (i + 1)) := by
  rw [bv_snoc, bv_take_next, bv_take_next, hl, Nat.pow_succ, Nat.mul_assoc]
  have e := Nat.mod_add_div (c + la.getD i 0 + lb.getD i 0) 65536
  generalize (c + la.getD i 0 + lb.getD i 0) % 65536 = r at *
  generalize (c + la.getD i 0 + lb.getD i 0) / 65536 = q at *
  have e2 : 65536 ^ i * r + 65536 ^ i * (65536 * q) = 65536 ^ i * c + 65536 ^ i * la.getD i 0 + 65536 ^ i * lb.getD i 0 := by
    rw [← Nat.mul_add, e, Nat.mul_add, Nat.mul_add]
  omega

theorem add_len {la lb lo : List Nat} {i c M : Nat} (hsa : Sm la) (hsb : Sm lb) (h : bv lo + 65536 ^ i * c = bv (la.take i) + bv (lb.take i)) (hla : la.length ≤ M) (hlb : lb.length ≤ M) (hc : 0 < c) : i ≤ M := by
  rcases Nat.lt_or_ge M i with h' | h'
  · exfalso
    have h1 := bv_lt hsa
    have h2 := bv_lt hsb
    rw [bv_take_ge la i (by omega), bv_take_ge lb i (by omega)] at h
    have h4 : 65536 ^ la.length ≤ 65536 ^ M := Nat.pow_le_pow_right (by decide) hla
    have h5 : 65536 ^ lb.length ≤ 65536 ^ M := Nat.pow_le_pow_right (by decide) hlb
    have h6 : 65536 ^ (M + 1) ≤ 65536 ^ i := Nat.pow_le_pow_right (by decide) h'
    have h8 : 65536 ^ i ≤ 65536 ^ i * c := Nat.le_mul_of_pos_right _ hc
    rw [Nat.pow_succ] at h6
    omega
  · exact h'

end Go.Proofs.YtkhdhiddhnmdkaaGreatDoor

namespace Go.Proofs.YtkhdhiddhnmdkaaGreatDoor
open Go.RowKit

theorem sub_round {la lb lo : List Nat} {i c c' d : Nat} (hl : lo.length = i) (h : bv (la.take i) + 65536 ^ i * c = bv lo + bv (lb.take i)) (hd : la.getD i 0 + 65536 * c' = d + lb.getD i 0 + c) :
    bv (la.take (i + 1)) + 65536 ^ (i + 1) * c' = bv (lo ++ [d]) + bv (lb.take (i + 1)) := by
  rw [bv_snoc, bv_take_next, bv_take_next, hl, Nat.pow_succ, Nat.mul_assoc]
  have e2 : 65536 ^ i * la.getD i 0 + 65536 ^ i * (65536 * c') = 65536 ^ i * d + 65536 ^ i * lb.getD i 0 + 65536 ^ i * c := by
    rw [← Nat.mul_add, hd, Nat.mul_add, Nat.mul_add]
  omega

theorem sub_end {la lb lo : List Nat} {c : Nat} (hl : lo.length = la.length) (hso : Sm lo) (h : bv (la.take la.length) + 65536 ^ la.length * c = bv lo + bv (lb.take la.length)) (hle : bv lb ≤ bv la) (hsa : Sm la) : bv lo = bv la - bv lb := by
  rw [List.take_length] at h
  have h1 := bv_lt hso
  have h2 := bv_lt hsa
  rw [hl] at h1
  have h3 : bv (lb.take la.length) = bv lb := by
    rcases Nat.lt_or_ge la.length lb.length with hlt | hge
    · have h4 := bv_take_drop lb la.length (Nat.le_of_lt hlt)
      rcases Nat.eq_zero_or_pos (bv (lb.drop la.length)) with h0 | h0
      · rw [h0] at h4; omega
      · exfalso
        have : 65536 ^ la.length ≤ 65536 ^ la.length * bv (lb.drop la.length) := Nat.le_mul_of_pos_right _ h0
        omega
    · exact bv_take_ge lb _ hge
  rw [h3] at h
  rcases Nat.eq_zero_or_pos c with rfl | hc
  · omega
  · exfalso
    have : 65536 ^ la.length ≤ 65536 ^ la.length * c := Nat.le_mul_of_pos_right _ hc
    omega

/-! ### Small -/
theorem small_round {lo : List Nat} {i x n : Nat} (hl : lo.length = i) (h : bv lo + 65536 ^ i * x = n) : bv (lo ++ [x % 65536]) + 65536 ^ (i + 1) * (x / 65536) = n := by
  rw [bv_snoc, hl, Nat.pow_succ, Nat.mul_assoc]
  have e2 : 65536 ^ i * (x % 65536) + 65536 ^ i * (65536 * (x / 65536)) = 65536 ^ i * x := by rw [← Nat.mul_add, Nat.mod_add_div]
  omega
/-! ### Comparing -/
theorem ex_drew {w x : World} (h : ∃ k, w.drewN k = x) (m : Nat) : ∃ k, w.drewN k = x.drewN m := by
  obtain ⟨k, rfl⟩ := h
  exact ⟨k + m, (World.drewN_drewN ..).symm⟩
/-- what Cmp says -/
def cmpOf (a b : Nat) : Int := if a < b then -1 else if b < a then 1 else 0
theorem cmp_split {la lb : List Nat} {i : Nat} (hsa : Sm la) (hl : la.length = lb.length) (hi : i < la.length) (h : la.drop (i + 1) = lb.drop (i + 1)) (hlt : la.getD i 0 < lb.getD i 0) : bv la < bv lb := by
  have e1 := bv_take_drop la (i + 1) (by omega)
  have e2 := bv_take_drop lb (i + 1) (by omega)
  rw [h] at e1
  rw [bv_take_next] at e1 e2
  have h1 := bv_lt (hsa.take i)
  rw [List.length_take, Nat.min_eq_left (by omega)] at h1
  have h3 : 65536 ^ i * la.getD i 0 + 65536 ^ i ≤ 65536 ^ i * lb.getD i 0 := by
    rw [← Nat.mul_succ]; exact Nat.mul_le_mul_left _ hlt
  omega
theorem drop_getD {l : List Nat} {i : Nat} (h : i < l.length) : l.drop i = l.getD i 0 :: l.drop (i + 1) := by
  rw [List.drop_eq_getElem_cons h, List.getD_eq_getElem?_getD, List.getElem?_eq_getElem h]; rfl

end Go.Proofs.YtkhdhiddhnmdkaaGreatDoor
