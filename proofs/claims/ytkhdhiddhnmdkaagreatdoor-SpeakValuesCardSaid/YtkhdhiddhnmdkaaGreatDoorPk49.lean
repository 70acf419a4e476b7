/-
chacha's laid tables.
SpeakValues answers true wherever its tables are laid.
-/
import Derived.Stop.LaidErr
import Derived.Test.YtkhdhiddhnmdkaaGreatDoorPk35
import Derived.Test.YtkhdhiddhnmdkaaGreatDoorPk08
import Derived.Test.YtkhdhiddhnmdkaaGreatDoorPk48
namespace Go.Proofs.YtkhdhiddhnmdkaaGreatDoor
open Go.RowKit Cha Sha
set_option maxRecDepth 100000
theorem cells_of_grid {H : Type} {enc : TypeId × Value → H} {P : Program} {w : World} {base : Nat} {sp : Nat → Bool} {held : Bool} {fuel : Nat} {t e u : TypeId} {n m : Nat} {k : IntKind} {cs : List Value} {zss : List (List Int)} {p : List MemPlace}
    (ht : P.underlying t = some (.array n e)) (he : P.underlying e = some (.array m u)) (hu : P.underlying u = some (.int k)) (hcu : P.cellsOf u = 1) (hce : P.cellsOf e = m) (hct : P.cellsOf t = n * m)
    (h : DataW.trod enc P w base sp held fuel t cs = some (.agg (zss.map (Lib.tabData k)), p)) (i : Nat) (hi : i < n) : ∃ r, zss[i]? = some r ∧ (cs.drop (i * m)).take m = r.map fun z => Value.int k z := by
  cases fuel with
  | zero => simp [DataW.trod] at h
  | succ fuel =>
    simp only [DataW.trod, ht, hce, hct] at h
    split at h
    · rename_i hl
      obtain ⟨xs, hm, hx⟩ := Option.map_eq_some_iff.1 h
      have hxs : xs.map (·.1) = zss.map (Lib.tabData k) := by
        have := congrArg Prod.fst hx
        simpa using this
      obtain ⟨b, hb, hf⟩ := Lib.mapM_at hm i i (by simp [hi])
      have h2 : (xs.map (·.1))[i]? = some b.1 := by simp [hb]
      rw [hxs, List.getElem?_map] at h2
      obtain ⟨r, hr, hrb⟩ := Option.map_eq_some_iff.1 h2
      refine ⟨r, hr, ?_⟩
      obtain ⟨b1, b2⟩ := b
      subst hrb
      exact Lib.cells_of_tab he hu hcu hce hf
    · cases h
def begL : List Int := [1634760805, 857760878, 2036477234, 1797285236]
def ordG : List (List Int) := [[0, 4, 8, 12], [1, 5, 9, 13], [2, 6, 10, 14], [3, 7, 11, 15], [0, 5, 10, 15], [1, 6, 11, 12], [2, 7, 8, 13], [3, 4, 9, 14]]
def ordL : List Nat := [0, 4, 8, 12, 1, 5, 9, 13, 2, 6, 10, 14, 3, 7, 11, 15, 0, 5, 10, 15, 1, 6, 11, 12, 2, 7, 8, 13, 3, 4, 9, 14]
theorem beg_of {W : World} {rest : List (String × DataW Unit)} (h : LV (("speakeasy/chacha.begin", Lib.tabData .u32 begL) :: rest) W) : W.rangeAt 4 0 (iv .u32 begL) ∧ 4 < W.heap.size := by
  have hT := LV.tab (g := 4) (t := 163) (e := 129) (n := 4) (by kernel_rfl) (by kernel_rfl) Tryz.underlying163 Tryz.underlying129 (by kernel_rfl) (by kernel_rfl) h
  have hc := fun i hi => hT.cell (g := 4) (by kernel_rfl) i hi
  refine ⟨fun j v hj => ?_, cell_lt' (hc 0 (by decide))⟩
  rw [Nat.zero_add]
  have hj4 : j < 4 := (List.getElem?_eq_some_iff.1 hj).1
  rw [hc j hj4, ← hj]
  match j, hj4 with
  | 0, _ => rfl
  | 1, _ => rfl
  | 2, _ => rfl
  | 3, _ => rfl
theorem ord_of {W : World} {rest : List (String × DataW Unit)} (h : LV (("speakeasy/chacha.order", .agg (ordG.map (Lib.tabData .i64))) :: rest) W) : W.rangeAt 5 0 (iv .i64 (ordL.map fun (n : Nat) => (n : Int))) ∧ 5 < W.heap.size := by
  obtain ⟨ps, g', t', cs, fuel, p, q, hg', ht', hvar, hd, _, _⟩ := h
  obtain rfl := Option.some.inj ((show Tryz.prog.globalNamed "speakeasy/chacha.order" = some 5 by kernel_rfl).symm.trans hg')
  obtain rfl := Option.some.inj ((show (Tryz.prog.globals[5]?).map (·.type) = some 166 by kernel_rfl).symm.trans ht')
  have hgr := cells_of_grid Tryz.underlying166 Tryz.underlying165 Tryz.underlying3 (by kernel_rfl) (by kernel_rfl) (by kernel_rfl) hd
  have hcell : ∀ j, W.cell? ⟨5, j, none⟩ = cs[j]? := fun j => World.var?_cell (by kernel_rfl) hvar j
  have key : ∀ i r, ordG[i]? = some r → i < 8 → ∀ q, q < 4 → cs[i * 4 + q]? = (r.map fun z => Value.int .i64 z)[q]? := fun i r hr hi q hq => by
    obtain ⟨r', hr', e⟩ := hgr i hi
    obtain rfl := Option.some.inj (hr.symm.trans hr')
    rw [← e, List.getElem?_take_of_lt hq, List.getElem?_drop, Array.getElem?_toList]
  have all : ∀ j, j < 32 → W.cell? ⟨5, j, none⟩ = (iv .i64 (ordL.map fun (n : Nat) => (n : Int)))[j]? := fun j hj => by
    have hi : j / 4 < 8 := by omega
    have e : j / 4 * 4 + j % 4 = j := by omega
    have dec : ∀ j : Fin 32, ∃ r, ordG[j.val / 4]? = some r ∧ r[j.val % 4]? = (ordL.map fun (n : Nat) => (n : Int))[j.val]? := by
      have h : ∀ j : Fin 32, (ordG[j.val / 4]?).bind (fun r => r[j.val % 4]?) = (ordL.map fun (n : Nat) => (n : Int))[j.val]? := by decide
      intro j
      have hj := h j
      have hs : j.val / 4 < ordG.length := by have := j.isLt; show _ < 8; omega
      rw [List.getElem?_eq_getElem hs] at hj ⊢
      exact ⟨_, rfl, hj⟩
    obtain ⟨r, hr, hrq⟩ := dec ⟨j, hj⟩
    have := key (j / 4) r hr hi (j % 4) (Nat.mod_lt _ (by decide))
    rw [e] at this
    rw [hcell, this]
    unfold iv
    rw [List.getElem?_map, List.getElem?_map]
    exact congrArg _ hrq
  refine ⟨fun j v hj => ?_, cell_lt' (all 0 (by decide))⟩
  rw [Nat.zero_add]
  have hj4 : j < 32 := (List.getElem?_eq_some_iff.1 hj).1
  rw [all j hj4, hj]
end Go.Proofs.YtkhdhiddhnmdkaaGreatDoor

namespace Go.Proofs.YtkhdhiddhnmdkaaGreatDoor
open Go.RowKit Sha Cha Tv
set_option maxRecDepth 100000
theorem ord_tab {W : World} {r : List (String × DataW Unit)} (h : LV (("speakeasy/scalar.order", Rows.laid_speakeasy_scalar_order) :: r) W) : Ordr W ∧ 6 < W.heap.size := by
  have h0 : LV (("speakeasy/scalar.order", Lib.tabData .u32 (orderL.map fun (n : Nat) => (n : Int))) :: r) W := h
  have hT := LV.tab (g := 6) (t := 178) (e := 129) (n := 8) (by kernel_rfl) (by kernel_rfl) Tryz.underlying178 Tryz.underlying129 (by kernel_rfl) (by kernel_rfl) h0
  have hc := fun i (hi : i < 8) => hT.cell (g := 6) (by kernel_rfl) i hi
  refine ⟨fun i hi => ?_, cell_lt' (hc 0 (by decide))⟩
  rw [hc i hi]
  have : ∀ i : Fin 8, (orderL.map fun (n : Nat) => (n : Int)).getD i.val 0 = ((orderL.getD i.val 0 : Nat) : Int) := by decide
  rw [← this ⟨i, hi⟩]
theorem values_laid (s0 : ByteArray) (W : World) (h : laidMet Tryz.prog Rows.speakValuesRow.laid W) :
    Calls Tryz.prog 3 #[.string s0] W fun e w' => e = .returned (.bool true) ∧ Below W.heap.size W w' := by
  obtain ⟨a, _, hv, _⟩ := laid_sentinel (g := 1) (ti := 27) (tp := 184) (te := 198) (ts := 9) h.tail.tail.tail (by kernel_rfl) (by kernel_rfl) Tryz.underlying27 (typeName_ptr_named (nm := "errors.errorString") (by kernel_rfl) (by kernel_rfl) (by decide)) Tryz.underlying184 Tryz.underlying198 rfl rfl Tryz.underlying9 (by kernel_rfl) (by kernel_rfl)
  have hE : ErrAt W := ⟨a, (World.var?_cell (by kernel_rfl) hv 0).trans rfl⟩
  obtain ⟨ps, hl, _, _⟩ := h
  have h0 : LV [("speakeasy/chacha.begin", Lib.tabData .u32 begL), ("speakeasy/chacha.order", .agg (ordG.map (Lib.tabData .i64))), ("speakeasy/scalar.order", Rows.laid_speakeasy_scalar_order), ("speakeasy/api.ErrForm", Rows.laid_speakeasy_api_ErrForm), ("speakeasy/api.ErrBig", Rows.laid_speakeasy_api_ErrBig), ("speakeasy/sha2.words", Rows.laid_speakeasy_sha2_words), ("speakeasy/sha2.first", Rows.laid_speakeasy_sha2_first)] W := ⟨ps, hl⟩
  obtain ⟨b1, b2⟩ := beg_of h0
  obtain ⟨o1, o2⟩ := ord_of h0.tail
  obtain ⟨q1, q2⟩ := ord_tab h0.tail.tail
  obtain ⟨t1, t2⟩ := sha_tabs h0.tail.tail.tail.tail.tail
  exact values_ok s0 W ⟨⟨t1, t2, q1, q2⟩, ⟨by decide, by decide, fun j => by
    rcases Nat.lt_or_ge j 32 with h | h
    · have : ∀ j : Fin 32, ordL.getD j.val 0 < 16 := by decide
      exact this ⟨j, h⟩
    · rw [List.getD_eq_getElem?_getD, List.getElem?_eq_none (show ordL.length ≤ j from h)]; decide, b1, o1⟩, ⟨b2, o2⟩⟩ hE
end Go.Proofs.YtkhdhiddhnmdkaaGreatDoor
