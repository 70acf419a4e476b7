/-
chacha's laid tables.
Openers of a law's arguments: arrays of bytes.
-/
import Derived.Lib.LaidTab
import Derived.Test.YtcbkbjpdfanjpaaGreatDoorPk12
import Derived.Test.YtcbkbjpdfanjpaaGreatDoorPk08
import Derived.Test.YtcbkbjpdfanjpaaGreatDoorPk32
namespace Go.Proofs.YtcbkbjpdfanjpaaGreatDoor
open Go.RowKit Cha Sha
set_option maxRecDepth 100000
theorem cells_of_grid {H : Type} {enc : TypeId × Value → H} {P : Program} {w : World} {base : Nat} {sp : Nat → Bool} {held : Bool} {fuel : Nat} {t e u : TypeId} {n m : Nat} {k : IntKind} {cs : List Value} {zss : List (List Int)} {p : List MemPlace}
    (ht : P.underlying t = some (.array n e)) (he : P.underlying e = some (.array m u)) (hu : P.underlying u = some (.int k)) (hcu : P.cellsOf u = 1) (hce : P.cellsOf e = m) (hct : P.cellsOf t = n * m)
    (h : DataW.trod enc P w base sp held fuel t cs = some (.agg (zss.map (Lib.tabData k)), p)) (i : Nat) (hi : i < n) : ∃ r, zss[i]? = some r ∧ (cs.drop (i * m)).take m = r.map fun z => Value.int k z := by
  cases fuel with
  | zero => simp [DataW.trod] at h
  | succ fuel =>
    simp only [DataW.trod, ht, hce, hct] at h
    split at h
    · rename_i hl
      obtain ⟨xs, hm, hx⟩ := Option.map_eq_some_iff.1 h
      have hxs : xs.map (·.1) = zss.map (Lib.tabData k) := by
        have := congrArg Prod.fst hx
        simpa using this
      obtain ⟨b, hb, hf⟩ := Lib.mapM_at hm i i (by simp [hi])
      have h2 : (xs.map (·.1))[i]? = some b.1 := by simp [hb]
      rw [hxs, List.getElem?_map] at h2
      obtain ⟨r, hr, hrb⟩ := Option.map_eq_some_iff.1 h2
      refine ⟨r, hr, ?_⟩
      obtain ⟨b1, b2⟩ := b
      subst hrb
      exact Lib.cells_of_tab he hu hcu hce hf
    · cases h
def begL : List Int := [1634760805, 857760878, 2036477234, 1797285236]
def ordG : List (List Int) := [[0, 4, 8, 12], [1, 5, 9, 13], [2, 6, 10, 14], [3, 7, 11, 15], [0, 5, 10, 15], [1, 6, 11, 12], [2, 7, 8, 13], [3, 4, 9, 14]]
def ordL : List Nat := [0, 4, 8, 12, 1, 5, 9, 13, 2, 6, 10, 14, 3, 7, 11, 15, 0, 5, 10, 15, 1, 6, 11, 12, 2, 7, 8, 13, 3, 4, 9, 14]
theorem beg_of {W : World} {rest : List (String × DataW Unit)} (h : LV (("speakeasy/chacha.begin", Lib.tabData .u32 begL) :: rest) W) : W.rangeAt 8 0 (iv .u32 begL) ∧ 8 < W.heap.size := by
  have hT := LV.tab (g := 8) (t := 151) (e := 75) (n := 4) (by kernel_rfl) (by kernel_rfl) Tryz.underlying151 Tryz.underlying75 (by kernel_rfl) (by kernel_rfl) h
  have hc := fun i hi => hT.cell (g := 8) (by kernel_rfl) i hi
  refine ⟨fun j v hj => ?_, cell_lt' (hc 0 (by decide))⟩
  rw [Nat.zero_add]
  have hj4 : j < 4 := (List.getElem?_eq_some_iff.1 hj).1
  rw [hc j hj4, ← hj]
  match j, hj4 with
  | 0, _ => rfl
  | 1, _ => rfl
  | 2, _ => rfl
  | 3, _ => rfl
theorem ord_of {W : World} {rest : List (String × DataW Unit)} (h : LV (("speakeasy/chacha.order", .agg (ordG.map (Lib.tabData .i64))) :: rest) W) : W.rangeAt 9 0 (iv .i64 (ordL.map fun (n : Nat) => (n : Int))) ∧ 9 < W.heap.size := by
  obtain ⟨ps, g', t', cs, fuel, p, q, hg', ht', hvar, hd, _, _⟩ := h
  obtain rfl := Option.some.inj ((show Tryz.prog.globalNamed "speakeasy/chacha.order" = some 9 by kernel_rfl).symm.trans hg')
  obtain rfl := Option.some.inj ((show (Tryz.prog.globals[9]?).map (·.type) = some 154 by kernel_rfl).symm.trans ht')
  have hgr := cells_of_grid Tryz.underlying154 Tryz.underlying153 Tryz.underlying3 (by kernel_rfl) (by kernel_rfl) (by kernel_rfl) hd
  have hcell : ∀ j, W.cell? ⟨9, j, none⟩ = cs[j]? := fun j => World.var?_cell (by kernel_rfl) hvar j
  have key : ∀ i r, ordG[i]? = some r → i < 8 → ∀ q, q < 4 → cs[i * 4 + q]? = (r.map fun z => Value.int .i64 z)[q]? := fun i r hr hi q hq => by
    obtain ⟨r', hr', e⟩ := hgr i hi
    obtain rfl := Option.some.inj (hr.symm.trans hr')
    rw [← e, List.getElem?_take_of_lt hq, List.getElem?_drop, Array.getElem?_toList]
  have all : ∀ j, j < 32 → W.cell? ⟨9, j, none⟩ = (iv .i64 (ordL.map fun (n : Nat) => (n : Int)))[j]? := fun j hj => by
    have hi : j / 4 < 8 := by omega
    have e : j / 4 * 4 + j % 4 = j := by omega
    have dec : ∀ j : Fin 32, ∃ r, ordG[j.val / 4]? = some r ∧ r[j.val % 4]? = (ordL.map fun (n : Nat) => (n : Int))[j.val]? := by
      have h : ∀ j : Fin 32, (ordG[j.val / 4]?).bind (fun r => r[j.val % 4]?) = (ordL.map fun (n : Nat) => (n : Int))[j.val]? := by decide
      intro j
      have hj := h j
      have hs : j.val / 4 < ordG.length := by have := j.isLt; show _ < 8; omega
      rw [List.getElem?_eq_getElem hs] at hj ⊢
      exact ⟨_, rfl, hj⟩
    obtain ⟨r, hr, hrq⟩ := dec ⟨j, hj⟩
    have := key (j / 4) r hr hi (j % 4) (Nat.mod_lt _ (by decide))
    rw [e] at this
    rw [hcell, this]
    unfold iv
    rw [List.getElem?_map, List.getElem?_map]
    exact congrArg _ hrq
  refine ⟨fun j v hj => ?_, cell_lt' (all 0 (by decide))⟩
  rw [Nat.zero_add]
  have hj4 : j < 32 := (List.getElem?_eq_some_iff.1 hj).1
  rw [all j hj4, hj]
end Go.Proofs.YtcbkbjpdfanjpaaGreatDoor

namespace Go.Proofs.YtcbkbjpdfanjpaaGreatDoor
open Go.RowKit Go.ChangeShapes Go.WideShapes Go.ChangeMaps

theorem list_of_each {α β : Type} (f : α → β) : ∀ (L : List β), (∀ i, i < L.length → ∃ a, L[i]? = some (f a)) → ∃ l : List α, L = l.map f
  | [], _ => ⟨[], rfl⟩
  | x :: L, h => by
    obtain ⟨a, ha⟩ := h 0 (Nat.zero_lt_succ _)
    obtain ⟨l, rfl⟩ := list_of_each f L fun i hi => by
      obtain ⟨b, hb⟩ := h (i + 1) (Nat.succ_lt_succ hi)
      exact ⟨b, by simpa using hb⟩
    exact ⟨a :: l, by simp at ha; rw [ha]; rfl⟩

/-- An array of bytes that came in. -/
theorem open_byte_array {H : Type} {enc : TypeId × Value → H} {P : Program} {w : World} {r : Reach} {b0 base : Nat} {sp : Nat → Bool} {held : Bool} {t e : TypeId} {n : Nat} {v : Value} {d : DataW H} {ps : List MemPlace}
    (ht : P.underlying t = some (.array n e)) (he : P.underlying e = some (.int .u8)) (hc : P.cellsOf e = 1) (hct : P.cellsOf t = n) (hval : Value.okWide P w r b0 t v) (h : DataW.Trod enc P w base sp held t v d ps) :
    ∃ l : List UInt8, v = .agg (l.map fun b => Value.int .u8 (b.toNat : Nat)).toArray ∧ l.length = n := by
  simp only [Value.okWide, ht] at hval
  obtain ⟨xs, rfl, hsz, _⟩ := hval
  rw [hct] at hsz
  obtain ⟨fuel, hf⟩ := h
  have hall : ∀ i, i < xs.toList.length → ∃ b : UInt8, xs.toList[i]? = some (Value.int .u8 (b.toNat : Nat)) := by
    intro i hi
    have hin : i < n := by rw [← hsz, ← Array.length_toList]; exact hi
    cases fuel with
    | zero => simp [DataW.trod] at hf
    | succ fuel =>
      simp only [DataW.trod, ht, hc, hct, Nat.mul_one, Value.cells] at hf
      split at hf
      · obtain ⟨ys, hm, hx⟩ := Option.map_eq_some_iff.1 hf
        obtain ⟨b, hb, hfi⟩ := Lib.mapM_at hm i i (by simp [hin])
        obtain ⟨z, hcz, rfl, hwf⟩ := DataW.trod_int he hfi
        have h1 : xs.toList[i]? = some (.int .u8 z) := by
          have := congrArg (·[0]?) hcz
          simpa [List.getElem?_take, List.getElem?_drop] using this
        obtain ⟨m, rfl, hm2⟩ : ∃ m : Nat, z = (m : Int) ∧ m < 256 := by
          have hr : IntKind.u8.min ≤ z ∧ z ≤ IntKind.u8.max := by simpa [Lit.wf] using hwf
          have hr : 0 ≤ z ∧ z ≤ 255 := hr
          exact ⟨z.toNat, by omega, by omega⟩
        exact ⟨UInt8.ofNat m, by rw [h1]; simp [Nat.mod_eq_of_lt hm2]⟩
      · cases hf
  obtain ⟨l, hl⟩ := list_of_each _ _ hall
  refine ⟨l, by rw [← hl], ?_⟩
  have := congrArg List.length hl
  simp at this
  omega
theorem u8_nat {x : Int} (h : (Lit.int .u8 x).wf = true) : ∃ n : Nat, x = n ∧ n < 256 := by
  have hb := bounds_u8 h
  exact ⟨x.toNat, by omega, by omega⟩
end Go.Proofs.YtcbkbjpdfanjpaaGreatDoor
