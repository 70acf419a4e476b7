/-
sha2: Sum256, Sum512.
sha2: Sum512.
The laid variables of a row, one by one; sha2's tables.
A drifting head whose values the walk finds; its tail: a new variable, and its value.
Openers of a law's arguments: strings, numbers, slices of numbers: plain facts on cells out of a reading.
-/
import Derived.Lib.LaidTab
import Derived.Test.YtilccncddbgpbaaDoorPk13
import Derived.Test.YtilccncddbgpbaaDoorPk09
import Derived.Test.YtilccncddbgpbaaDoorPk01
namespace Go.Proofs.YtilccncddbgpbaaDoor
open Go.RowKit Sha
set_option maxRecDepth 100000
theorem kb_len (b : Bool) : (kb b).length = 14 := by rw [iv_len]; cases b <;> rfl
/-- '[]byte(s)', looked at as an array -/
theorem by_arr (w : World) (e : TypeId) (l : List UInt8) (hl : l.length ≤ 1000000) : ∃ cp, byVal w e (by8 l) = .slice (some ⟨w.heap.size, 0, none⟩) l.length cp ∧ l.length ≤ cp ∧ (byWorld w e (by8 l)).rangeAt w.heap.size 0 (byv l) ∧ Rw w (byWorld w e (by8 l)) := by
  have hs := by8_size l
  have hsg := by_sg w e (by8 l) (by rw [hs]; unfold maxLen; omega)
  have hv : byVal w e (by8 l) = .slice (some ⟨w.heap.size, 0, none⟩) l.length (grownCap w l.length 0 e) := by unfold byVal; rw [hs]
  refine ⟨_, hv, grownCap_ge w l.length 0 e, fun j v hj => ?_, by_below w e (by8 l)⟩
  rw [hv, hs] at hsg
  obtain ⟨_, ao, cap, he, hn, _, hc⟩ := hsg
  have hjl : j < l.length := by
    have := (List.getElem?_eq_some_iff.1 hj).1
    rwa [byv_len] at this
  simp only [Value.slice.injEq] at he
  obtain ⟨rfl, _, rfl⟩ := he
  rcases hc with h0 | ⟨g, off, he, _, _, hx⟩
  · omega
  · simp only [Option.some.injEq, Addr.mk.injEq] at he
    obtain ⟨rfl, rfl, _⟩ := he
    rw [hx j (by omega)]
    exact hj
theorem run_arrayAt {P : Program} {t e : TypeId} {n : Nat} (ht : P.underlying t = some (.array n e)) (a : Addr) (len cap : Nat) (h : n ≤ len) (w : World) : (Instr.arrayAt t (.slice (some a) len cap)).run P w = .ok (.pointer (some a)) w := by
  simp [Instr.arrayAt, run_underlying ht, Nat.not_lt.2 h]
end Go.Proofs.YtilccncddbgpbaaDoor

namespace Go.Proofs.YtilccncddbgpbaaDoor
open Go.RowKit Sha
set_option maxRecDepth 100000
theorem kind512_ok (w : World) : Calls Tryd.prog 16 #[] w fun e w' => e = .returned (.agg (kb true).toArray) ∧ Below w.heap.size w w' := by
  have LK := Lib.hid (kb_len true)
  go_enter Tryd.func16, Tryd.ntmps16
  have NB : Blk (w.alloc (.cells (iv .i64 (List.replicate 14 0)).toArray 41)) w.heap.size 41 (iv .i64 (List.replicate 14 0)) := Blk.new _ _ _
  go_upto_region 1 with fail
  refine wp_gen (fun wx => Blk wx w.heap.size 41 (iv .i64 (List.replicate 14 0)) ∧ Below w.heap.size w wx) ⟨NB, below1 _ _⟩ ?_
  rintro w1 ⟨B1, BW⟩
  clear NB
  have hag : (#[Value.int .i64 64, .int .i64 80, .int .i64 1, .int .i64 8, .int .i64 7, .int .i64 19, .int .i64 61, .int .i64 6, .int .i64 28, .int .i64 34, .int .i64 39, .int .i64 14, .int .i64 18, .int .i64 41] : Array Value) = (kb true).toArray := rfl
  go_wp2_with (refine store_blk (cs := kb true) B1 kind_size LK.out rfl (iv_one _ _) rfl rfl rfl rfl ?_)
  exact ret_blk rfl (B1.setRow _) Tryd.underlying41 rfl kind_size LK.out rfl rfl ⟨rfl, below_row BW _ _ (Nat.le_refl _)⟩
theorem sum512_len (T F : List Int) (m : List UInt8) (_hF : F.length = 8) : (sumF true T F m).length = 64 := by
  unfold sumF outL
  have hl := blk_len true T (startH true F 8) (padded true m) (start_len true F 8) ((padded true m).length / (2 * kw true))
  generalize blkH true T (startH true F 8) (padded true m) ((padded true m).length / (2 * kw true)) = H at *
  obtain ⟨a, b, c, d, e, f, g, k, rfl⟩ := list8 H hl
  simp [word_len, kw]
theorem arr64s_size : (Tryd.prog.info? 23).map (·.size) = some 64 := by kernel_rfl
set_option maxHeartbeats 4000000 in
theorem sum512_ok (T F : List Int) (bk o c : Nat) (xs : List ByteArray) (w : World) (hT : ShaT w T F) (hc : ∀ (j : Nat) x, xs[j]? = some x → w.cell? ⟨bk, o + j, none⟩ = some (.string x)) (hbk : bk < w.heap.size) (hxl : xs.length ≤ 1000) (hcap : xs.length ≤ c) (hlen : (catL xs).length ≤ 1000000)
    (hg1 : 1 < w.heap.size) (_hg2 : 0 < w.heap.size) :
    Calls Tryd.prog 4 #[.slice (some ⟨bk, o, none⟩) xs.length c] w fun e w' => e = .returned (.agg (byv (sumF true T F (catL xs))).toArray) ∧ Below w.heap.size w w' := by
  have hsum : Hid (∀ w', Below w.heap.size w w' → Calls Tryd.prog 17 #[.agg (kb true).toArray, .slice (some ⟨bk, o, none⟩) xs.length c] w' fun e w'' => e = .returned (.string (by8 (sumF true T F (catL xs)))) ∧ Below w'.heap.size w' w'') := Lib.hid fun w' hb => by
    have hs := hb.size
    exact sum_ok true T F bk o c xs w' (hT.below hb) (fun j x hj => by rw [← hc j x hj]; exact World.cell?_of_block (w := w) (hb.block _ hbk)) (by omega) hxl hcap hlen (by omega) (by omega)
  have hl := sum512_len T F (catL xs) hT.f
  generalize sumF true T F (catL xs) = R at *
  have LR : Hid ((byv R).length = 64) := Lib.hid (by rw [byv_len]; exact hl)
  have hRs : (by8 R).size = 64 := by rw [by8_size]; exact hl
  clear hT hc hlen hg1 _hg2
  go_enter Tryd.func4, Tryd.ntmps4
  go_upto_region 1 with fail
  refine wp_gen (fun wx => Blk wx w.heap.size 23 (iv .u8 (List.replicate 64 0)) ∧ Below w.heap.size w wx) ⟨Blk.new w _ (iv .u8 (List.replicate 64 0)), below1 _ _⟩ ?_
  rintro w1 ⟨B1, BW⟩
  have H1 := Lib.hid (And.intro B1 BW)
  clear B1 BW
  have harr : R.length ≤ 1000000 := by omega
  have LZ : Hid ((iv .u8 (List.replicate 64 0)).length = 64) := Lib.hid rfl
  go_wp2_with (first
    | (go_at_call 16; refine (kind512_ok _).mono ?_; rintro e w2 ⟨rfl, hb2⟩)
    | (go_at_call 17; refine (hsum.out _ (Rw.out H1.out.2 hb2)).mono ?_; rintro e w3 ⟨rfl, hb3⟩; have hcv := run_by w3 9 25 5 (by8 R) Tryd.underlying9 Tryd.underlying25 Tryd.underlying5; obtain ⟨cp, hv, hcp, hrg, hrw⟩ := by_arr w3 5 R harr; rw [hv] at hcv; generalize byWorld w3 5 (by8 R) = w4 at hcv hrg hrw; have HR := Lib.hid (And.intro hrg hrw); have hat := fun w' => run_arrayAt Tryd.underlying23 ⟨w3.heap.size, 0, none⟩ 64 cp (Nat.le_refl _) w'; clear hrg hrw hv)
    | refine wpList_load_mid rfl 23 (.tmp 7) rfl w3.heap.size 0 rfl (byv R) _ HR.out.1 Tryd.underlying23 rfl (by rw [LR.out]; exact arr64s_size) ?_
    | refine store_blk (H1.out.1.rw (Rw.trans hb2 (Rw.trans hb3 HR.out.2))) arr64s_size LR.out LZ.out (byv_one _) rfl rfl rfl rfl ?_)
  exact ret_blk rfl ((H1.out.1.rw (Rw.trans hb2 (Rw.trans hb3 HR.out.2))).setRow _) Tryd.underlying23 rfl arr64s_size LR.out rfl rfl ⟨rfl, below_row (Rw.out H1.out.2 (Rw.trans hb2 (Rw.trans hb3 HR.out.2))) _ _ (Nat.le_refl _)⟩
theorem catL_one (m : List UInt8) : catL [by8 m] = m := by simp [catL, by8]
theorem catL_cons (m : List UInt8) (xs : List ByteArray) : catL (by8 m :: xs) = m ++ catL xs := by simp [catL, by8]
/-- the globals of sha2 lie in the world -/
def ShaG (w : World) : Prop := 1 < w.heap.size ∧ 0 < w.heap.size
def S512 (T F : List Int) (m : List UInt8) : List UInt8 := sumF true T F m
theorem sum512_at {T F : List Int} {w0 : World} (hT : ShaT w0 T F) (hg : ShaG w0) (bk : Nat) (ty : TypeId) (xs : List ByteArray) (n c : Nat) (hn : n = xs.length) (hxl : xs.length ≤ 1000) (hcap : xs.length ≤ c) (hlen : (catL xs).length ≤ 1000000)
    {w : World} (hb : Below w0.heap.size w0 w) (hB : Blk w bk ty (xs.map .string)) :
    Calls Tryd.prog 4 #[.slice (some ⟨bk, 0, none⟩) n c] w fun e w' => e = .returned (.agg (byv (S512 T F (catL xs))).toArray) ∧ Below w.heap.size w w' := by
  have hs := hb.size
  have := hg.1
  have := hg.2
  subst hn
  refine sum512_ok T F bk 0 c xs w (hT.below hb) (fun j x hj => ?_) hB.lt hxl hcap hlen (by omega) (by omega)
  rw [Nat.zero_add]
  exact hB.cell j _ (by rw [List.getElem?_map, hj]; rfl)
theorem S512_len {w : World} {T F : List Int} (hT : ShaT w T F) (m : List UInt8) : (S512 T F m).length = 64 := sum512_len T F m hT.f
end Go.Proofs.YtilccncddbgpbaaDoor

namespace Go.Proofs.YtilccncddbgpbaaDoor
open Go.RowKit Sha
set_option maxRecDepth 100000
def LV (laid : List (String × DataW Unit)) (W : World) : Prop := ∃ ps, DataW.LaidVars Tryd.prog W laid ps
theorem LV.tail {x : String × DataW Unit} {r : List (String × DataW Unit)} {W : World} (h : LV (x :: r) W) : LV r W := by
  obtain ⟨ps, g, t, cs, fuel, p, q, _, _, _, _, h2, _⟩ := h
  exact ⟨q, h2⟩
theorem LV.tab {W : World} {name : String} {k : IntKind} {zs : List Int} {rest : List (String × DataW Unit)} {g : Nat} {t e : TypeId} {n : Nat}
    (hg : Tryd.prog.globalNamed name = some g) (hty : (Tryd.prog.globals[g]?).map (·.type) = some t) (ht : Tryd.prog.underlying t = some (.array n e)) (he : Tryd.prog.underlying e = some (.int k)) (hce : Tryd.prog.cellsOf e = 1) (hct : Tryd.prog.cellsOf t = n)
    (h : LV ((name, Lib.tabData k zs) :: rest) W) : Lib.TabIs Tryd.prog W name k zs := by
  obtain ⟨ps, g', t', cs, fuel, p, q, hg', ht', hvar, hd, _, _⟩ := h
  obtain rfl := Option.some.inj (hg.symm.trans hg')
  obtain rfl := Option.some.inj (hty.symm.trans ht')
  unfold Lib.TabIs
  rw [hvar, ← Lib.cells_of_tab ht he hce hct hd]
theorem cell_lt' {W : World} {g i : Nat} {v : Value} (h : W.cell? ⟨g, i, none⟩ = some v) : g < W.heap.size := by
  rcases Nat.lt_or_ge g W.heap.size with h' | h'
  · exact h'
  · simp [World.cell?, Array.getElem?_eq_none h'] at h
def dInts : DataW Unit → List Int
  | .agg l => l.map fun | .lit (.int _ z) => z | _ => 0
  | _ => []
def wordsL : List Int := dInts Rows.laid_speakeasy_sha2_words
def firstL : List Int := dInts Rows.laid_speakeasy_sha2_first
theorem words_len : wordsL.length = 80 := by kernel_rfl
theorem first_len : firstL.length = 8 := by kernel_rfl
theorem sha_tabs {W : World} {r : List (String × DataW Unit)} (h : LV (("speakeasy/sha2.words", Rows.laid_speakeasy_sha2_words) :: ("speakeasy/sha2.first", Rows.laid_speakeasy_sha2_first) :: r) W) : ShaT W wordsL firstL ∧ ShaG W := by
  have h0 : LV (("speakeasy/sha2.words", Lib.tabData .u64 wordsL) :: ("speakeasy/sha2.first", Lib.tabData .u64 firstL) :: r) W := h
  have hW := LV.tab (g := 1) (t := 101) (e := 27) (n := 80) (by kernel_rfl) (by kernel_rfl) Tryd.underlying101 Tryd.underlying27 (by kernel_rfl) (by kernel_rfl) h0
  have hF := LV.tab (g := 0) (t := 67) (e := 27) (n := 8) (by kernel_rfl) (by kernel_rfl) Tryd.underlying67 Tryd.underlying27 (by kernel_rfl) (by kernel_rfl) h0.tail
  have hw := fun i (hi : i < 80) => hW.cell (g := 1) (by kernel_rfl) i (by rw [words_len]; exact hi)
  have hf := fun i (hi : i < 8) => hF.cell (g := 0) (by kernel_rfl) i (by rw [first_len]; exact hi)
  exact ⟨⟨words_len, first_len, hw, hf⟩, ⟨cell_lt' (hw 0 (by decide)), cell_lt' (hf 0 (by decide))⟩⟩
end Go.Proofs.YtilccncddbgpbaaDoor

namespace Go.Proofs.YtilccncddbgpbaaDoor
open Go.RowKit
section
variable {P : Program} {ops : Array Oper} {w0 : World} {a : Act} {o : Oper} {K : Act → Prop}
theorem drift_autoE (hg : Region.wanted o (yielded ops a.tmps) = true) (h : ∃ v, (∀ w, Rw w0 w → (execOp a.eval o).run P w = .ok (.value v) w) ∧ K (a.put o.dst v)) :
    if Region.wanted o (yielded ops a.tmps) then ∃ v, (∀ w, Rw w0 w → o.quietAt P a (Rw w) w v) ∧ K (a.put o.dst v) else K (a.put o.dst undef) := by
  obtain ⟨v, hv, hk⟩ := h
  exact drift_plain v hg hv hk
theorem drift_callE (hg : Region.wanted o (yielded ops a.tmps) = true) (h : ∃ f args, (∀ w, (execOp a.eval o).run P w = .ok (.enter f args) w) ∧ ∃ v, (∀ w, Rw w0 w → Calls P f args w fun e w' => e = .returned v ∧ Rw w w') ∧ K (a.put o.dst v)) :
    if Region.wanted o (yielded ops a.tmps) then ∃ v, (∀ w, Rw w0 w → o.quietAt P a (Rw w) w v) ∧ K (a.put o.dst v) else K (a.put o.dst undef) := by
  obtain ⟨f, args, hv, v, hc, hk⟩ := h
  exact drift_call v f args hg hv hc hk
/-- a new variable, and its value -/
theorem drift_newG {t n : Nat} {old l : List Value} {oa os : Oper} {KW : Act → World → Prop} {d : Tmp} {y : Operand}
    (hrun : ∀ w : World, (Instr.alloc t true (.tuple #[])).run P w = .ok (.pointer (some ⟨w.heap.size, 0, none⟩)) (w.alloc (.cells old.toArray t)))
    (hsz : (P.info? t).map (·.size) = some n) (ho : old.length = n) (hl : l.length = n) (h1 : ∀ v ∈ l, v.oneCell' = true)
    (ha : oa.op = .alloc t) (hga : oa.guard = none) (hd : oa.dst = some d)
    (hs : os.op = .store t (.tmp d) y) (hgs : os.guard = none) (hds : os.dst = none) (hdt : d < a.tmps.size) (hy : ∀ v, (a.put (some d) v).eval y = .agg l.toArray)
    (h : ∀ c w2, w0.heap.size ≤ c → Rw w0 w2 → Blk w2 c t l → KW (a.put (some d) (.pointer (some ⟨c, 0, none⟩))) w2) : wpListD P ops w0 KW [oa, os] a w0 := by
  refine driftT_step (fun w1 h1' Q' hQ' => ?_)
  have hz1 : w0.heap.size ≤ w1.heap.size := h1'.size
  have hW : Below w0.heap.size w0 (w1.alloc (.cells old.toArray t)) := Below.alloc h1' hz1 _
  refine wpList_plain hga fun K1 hK1 => ?_
  unfold Oper.wp execOp
  simp only [ha, Sem.run_bind, hrun w1, Result.andThen_ok, Sem.run_pure, Oper.upon]
  refine hK1 _ _ (hQ' _ _ hW ?_)
  rw [hd]
  refine driftT_step (fun w3 h3 Q2 hQ2 => ?_)
  have hb : Blk w3 w1.heap.size t old := (Blk.new w1 t old).below h3 (by simp)
  have hW3 : Below w0.heap.size w0 w3 := Rw.trans hW h3
  refine store_blk (n := n) (ty := t) (t := t) (b := w1.heap.size) (old := old) (cs := l) hb hsz hl ho h1 hgs hs ?_ (hy _) ?_
  · show (a.put (some d) _).tmps.getD d undef = _
    simp [Act.put, hdt]
  · refine hQ2 _ _ (below_row hW3 _ _ hz1) ?_
    rw [hds]
    intro w4 h4
    have hb4 := hb.setRow l
    have hW4 := Rw.trans (show Rw w0 (w3.setRow w1.heap.size l.toArray) from below_row hW3 _ _ hz1) h4
    exact h w1.heap.size w4 hz1 hW4 (hb4.below h4 hb4.lt)
theorem drift_loadN {b off ty : Nat} {d : TypeDesc} {x : Operand} {cs : List Value} (hb : ∀ w, Rw w0 w → w.rangeAt b off cs)
    (hu : P.underlying ty = some d) (hd : d.isRow = true) (hi : (P.info? ty).map (·.size) = some cs.length) (hg : Region.wanted o (yielded ops a.tmps) = true) (ho : o.op = .load ty x) (hx : a.eval x = .pointer (some ⟨b, off, none⟩)) (h : K (a.put o.dst (.agg cs.toArray))) :
    if Region.wanted o (yielded ops a.tmps) then ∃ v, (∀ w, Rw w0 w → o.quietAt P a (Rw w) w v) ∧ K (a.put o.dst v) else K (a.put o.dst undef) :=
  drift_plain (.agg cs.toArray) hg (fun w hw => by
    unfold execOp
    simp only [ho, hx, run_loadAt_mid w b off ty cs _ (hb w hw) hu hd hi, Sem.run_bind, Sem.run_pure, Result.andThen_ok]) h
end
end Go.Proofs.YtilccncddbgpbaaDoor

namespace Go.Proofs.YtilccncddbgpbaaDoor
open Go.RowKit Go.ChangeShapes Go.WideShapes Go.ChangeMaps

theorem cell_lt {w : World} {a : Addr} {v : Value} (h : w.cell? a = some v) : a.block < w.heap.size ∧ a.spot = none := by
  unfold World.cell? at h
  cases hh : w.heap[a.block]? with
  | none => rw [hh] at h; cases h
  | some o =>
    refine ⟨(Array.getElem?_eq_some_iff.1 hh).1, ?_⟩
    rw [hh] at h
    cases o <;> simp at h
    exact h.1

/-- A slice of numbers that came in: each element's cell. -/
theorem open_ints_at {H : Type} {enc : TypeId × Value → H} {P : Program} {w : World} {r : Reach} {b0 base : Nat} {sp : Nat → Bool} {held : Bool} {t e : TypeId} {k : IntKind} {v : Value} {d : DataW H} {ps : List MemPlace}
    (ht : P.underlying t = some (.slice e)) (he : P.underlying e = some (.int k)) (hc : P.cellsOf e = 1)
    (hval : Value.okWide P w r b0 t v) (h : DataW.Trod enc P w base sp held t v d ps) :
    ∃ (a : Option Addr) (len cap : Nat) (zs : List Int), v = .slice a len cap ∧ len ≤ cap ∧ cap ≤ maxLen ∧
      (∀ i, i < len → ∃ b off, a = some ⟨b, off, none⟩ ∧ w.cell? ⟨b, off + i, none⟩ = some (.int k (zs.getD i 0)) ∧ b < w.heap.size ∧ (Lit.int k (zs.getD i 0)).wf = true) := by
  obtain ⟨a0, len, cap, rfl⟩ := okWide_slice ht hval
  obtain ⟨fuel, hf⟩ := h
  rcases open_ints ht he hc hf with ⟨hcs, hx⟩ | ⟨a, len', cap', zs, hcs, _, hl, hm, hz, hx, hcell, hwz⟩
  · simp [Value.cells] at hcs
    obtain ⟨rfl, rfl, rfl⟩ := hcs
    exact ⟨none, 0, 0, [], rfl, Nat.le_refl _, Nat.zero_le _, fun i hi => absurd hi (Nat.not_lt_zero _)⟩
  · simp [Value.cells] at hcs
    obtain ⟨rfl, rfl, rfl⟩ := hcs
    refine ⟨some a, len, cap, zs, rfl, hl, hm, fun i hi => ?_⟩
    have hi' : i < zs.length := by rw [hz]; split <;> omega
    have hci := hcell i hi'
    have h00 := hcell 0 (by omega)
    rw [Addr.add_zero'] at h00
    have hlt := cell_lt h00
    obtain ⟨b, off, s⟩ := a
    have hs : s = none := hlt.2
    subst hs
    rw [Addr.add_lit] at hci
    refine ⟨b, off, rfl, hci, hlt.1, ?_⟩
    have : zs.getD i 0 ∈ zs := by
      rw [List.getD_eq_getElem?_getD, List.getElem?_eq_getElem hi']; exact List.getElem_mem hi'
    exact hwz _ this
end Go.Proofs.YtilccncddbgpbaaDoor
