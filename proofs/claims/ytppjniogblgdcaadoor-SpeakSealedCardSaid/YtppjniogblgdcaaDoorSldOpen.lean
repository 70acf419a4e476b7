/-
The laid tables of the sealed law.
-/
import Derived.Test.YtppjniogblgdcaaDoorSld2
import Derived.Lib.LaidTab
namespace Go.Proofs.YtppjniogblgdcaaDoor
open Go.RowKit Cha Sha
set_option maxRecDepth 100000
def LV (laid : List (String × DataW Unit)) (W : World) : Prop := ∃ ps, DataW.LaidVars Tryd.prog W laid ps
theorem LV.tail {x : String × DataW Unit} {r : List (String × DataW Unit)} {W : World} (h : LV (x :: r) W) : LV r W := by
  obtain ⟨ps, g, t, cs, fuel, p, q, _, _, _, _, h2, _⟩ := h
  exact ⟨q, h2⟩
theorem LV.tab {W : World} {name : String} {k : IntKind} {zs : List Int} {rest : List (String × DataW Unit)} {g : Nat} {t e : TypeId} {n : Nat}
    (hg : Tryd.prog.globalNamed name = some g) (hty : (Tryd.prog.globals[g]?).map (·.type) = some t) (ht : Tryd.prog.underlying t = some (.array n e)) (he : Tryd.prog.underlying e = some (.int k)) (hce : Tryd.prog.cellsOf e = 1) (hct : Tryd.prog.cellsOf t = n)
    (h : LV ((name, Lib.tabData k zs) :: rest) W) : Lib.TabIs Tryd.prog W name k zs := by
  obtain ⟨ps, g', t', cs, fuel, p, q, hg', ht', hvar, hd, _, _⟩ := h
  obtain rfl := Option.some.inj (hg.symm.trans hg')
  obtain rfl := Option.some.inj (hty.symm.trans ht')
  unfold Lib.TabIs
  rw [hvar, ← Lib.cells_of_tab ht he hce hct hd]
theorem cells_of_grid {H : Type} {enc : TypeId × Value → H} {P : Program} {w : World} {base : Nat} {sp : Nat → Bool} {held : Bool} {fuel : Nat} {t e u : TypeId} {n m : Nat} {k : IntKind} {cs : List Value} {zss : List (List Int)} {p : List MemPlace}
    (ht : P.underlying t = some (.array n e)) (he : P.underlying e = some (.array m u)) (hu : P.underlying u = some (.int k)) (hcu : P.cellsOf u = 1) (hce : P.cellsOf e = m) (hct : P.cellsOf t = n * m)
    (h : DataW.trod enc P w base sp held fuel t cs = some (.agg (zss.map (Lib.tabData k)), p)) (i : Nat) (hi : i < n) : ∃ r, zss[i]? = some r ∧ (cs.drop (i * m)).take m = r.map fun z => Value.int k z := by
  cases fuel with
  | zero => simp [DataW.trod] at h
  | succ fuel =>
    simp only [DataW.trod, ht, hce, hct] at h
    split at h
    · rename_i hl
      obtain ⟨xs, hm, hx⟩ := Option.map_eq_some_iff.1 h
      have hxs : xs.map (·.1) = zss.map (Lib.tabData k) := by
        have := congrArg Prod.fst hx
        simpa using this
      obtain ⟨b, hb, hf⟩ := Lib.mapM_at hm i i (by simp [hi])
      have h2 : (xs.map (·.1))[i]? = some b.1 := by simp [hb]
      rw [hxs, List.getElem?_map] at h2
      obtain ⟨r, hr, hrb⟩ := Option.map_eq_some_iff.1 h2
      refine ⟨r, hr, ?_⟩
      obtain ⟨b1, b2⟩ := b
      subst hrb
      exact Lib.cells_of_tab he hu hcu hce hf
    · cases h
def begL : List Int := [1634760805, 857760878, 2036477234, 1797285236]
def ordG : List (List Int) := [[0, 4, 8, 12], [1, 5, 9, 13], [2, 6, 10, 14], [3, 7, 11, 15], [0, 5, 10, 15], [1, 6, 11, 12], [2, 7, 8, 13], [3, 4, 9, 14]]
def ordL : List Nat := [0, 4, 8, 12, 1, 5, 9, 13, 2, 6, 10, 14, 3, 7, 11, 15, 0, 5, 10, 15, 1, 6, 11, 12, 2, 7, 8, 13, 3, 4, 9, 14]
theorem cell_lt' {W : World} {g i : Nat} {v : Value} (h : W.cell? ⟨g, i, none⟩ = some v) : g < W.heap.size := by
  rcases Nat.lt_or_ge g W.heap.size with h' | h'
  · exact h'
  · simp [World.cell?, Array.getElem?_eq_none h'] at h
theorem beg_of {W : World} {rest : List (String × DataW Unit)} (h : LV (("speakeasy/chacha.begin", Lib.tabData .u32 begL) :: rest) W) : W.rangeAt 0 0 (iv .u32 begL) ∧ 0 < W.heap.size := by
  have hT := LV.tab (g := 0) (t := 58) (e := 29) (n := 4) (by kernel_rfl) (by kernel_rfl) Tryd.underlying58 Tryd.underlying29 (by kernel_rfl) (by kernel_rfl) h
  have hc := fun i hi => hT.cell (g := 0) (by kernel_rfl) i hi
  refine ⟨fun j v hj => ?_, cell_lt' (hc 0 (by decide))⟩
  rw [Nat.zero_add]
  have hj4 : j < 4 := (List.getElem?_eq_some_iff.1 hj).1
  rw [hc j hj4, ← hj]
  match j, hj4 with
  | 0, _ => rfl
  | 1, _ => rfl
  | 2, _ => rfl
  | 3, _ => rfl
theorem ord_of {W : World} {rest : List (String × DataW Unit)} (h : LV (("speakeasy/chacha.order", .agg (ordG.map (Lib.tabData .i64))) :: rest) W) : W.rangeAt 1 0 (iv .i64 (ordL.map fun (n : Nat) => (n : Int))) ∧ 1 < W.heap.size := by
  obtain ⟨ps, g', t', cs, fuel, p, q, hg', ht', hvar, hd, _, _⟩ := h
  obtain rfl := Option.some.inj ((show Tryd.prog.globalNamed "speakeasy/chacha.order" = some 1 by kernel_rfl).symm.trans hg')
  obtain rfl := Option.some.inj ((show (Tryd.prog.globals[1]?).map (·.type) = some 61 by kernel_rfl).symm.trans ht')
  have hgr := cells_of_grid Tryd.underlying61 Tryd.underlying60 Tryd.underlying3 (by kernel_rfl) (by kernel_rfl) (by kernel_rfl) hd
  have hcell : ∀ j, W.cell? ⟨1, j, none⟩ = cs[j]? := fun j => World.var?_cell (by kernel_rfl) hvar j
  have key : ∀ i r, ordG[i]? = some r → i < 8 → ∀ q, q < 4 → cs[i * 4 + q]? = (r.map fun z => Value.int .i64 z)[q]? := fun i r hr hi q hq => by
    obtain ⟨r', hr', e⟩ := hgr i hi
    obtain rfl := Option.some.inj (hr.symm.trans hr')
    rw [← e, List.getElem?_take_of_lt hq, List.getElem?_drop, Array.getElem?_toList]
  have all : ∀ j, j < 32 → W.cell? ⟨1, j, none⟩ = (iv .i64 (ordL.map fun (n : Nat) => (n : Int)))[j]? := fun j hj => by
    have hi : j / 4 < 8 := by omega
    have e : j / 4 * 4 + j % 4 = j := by omega
    have dec : ∀ j : Fin 32, ∃ r, ordG[j.val / 4]? = some r ∧ r[j.val % 4]? = (ordL.map fun (n : Nat) => (n : Int))[j.val]? := by
      have h : ∀ j : Fin 32, (ordG[j.val / 4]?).bind (fun r => r[j.val % 4]?) = (ordL.map fun (n : Nat) => (n : Int))[j.val]? := by decide
      intro j
      have hj := h j
      have hs : j.val / 4 < ordG.length := by have := j.isLt; show _ < 8; omega
      rw [List.getElem?_eq_getElem hs] at hj ⊢
      exact ⟨_, rfl, hj⟩
    obtain ⟨r, hr, hrq⟩ := dec ⟨j, hj⟩
    have := key (j / 4) r hr hi (j % 4) (Nat.mod_lt _ (by decide))
    rw [e] at this
    rw [hcell, this]
    unfold iv
    rw [List.getElem?_map, List.getElem?_map]
    exact congrArg _ hrq
  refine ⟨fun j v hj => ?_, cell_lt' (all 0 (by decide))⟩
  rw [Nat.zero_add]
  have hj4 : j < 32 := (List.getElem?_eq_some_iff.1 hj).1
  rw [all j hj4, hj]
end Go.Proofs.YtppjniogblgdcaaDoor
