/-
Openers of the laws' arguments: a key, a block.
-/
import Derived.Test.YteleedcpepifjaaDoorOpenA
import Derived.Test.YteleedcpepifjaaDoorAesF
import Derived.Lib.SmallJoins
namespace Go.Proofs.YteleedcpepifjaaDoor
open Go.RowKit Go.ChangeShapes Go.WideShapes Go.ChangeMaps AesP
set_option maxRecDepth 100000
theorem bytes_trod {H : Type} {enc : TypeId × Value → H} {P : Program} {w : World} {base : Nat} {sp : Nat → Bool} {held : Bool} {t e : TypeId} {n fuel : Nat} {cs : List Value} {y : DataW H × List MemPlace}
    (ht : P.underlying t = some (.array n e)) (he : P.underlying e = some (.int .u8)) (hc : P.cellsOf e = 1) (hct : P.cellsOf t = n) (hl : cs.length = n) (hf : DataW.trod enc P w base sp held fuel t cs = some y) :
    ∃ l : List Nat, cs = b8 l ∧ l.length = n ∧ By l := by
  have hall : ∀ i, i < cs.length → ∃ b : UInt8, cs[i]? = some (Value.int .u8 (b.toNat : Nat)) := by
    intro i hi
    have hin : i < n := by rw [← hl]; exact hi
    cases fuel with
    | zero => simp [DataW.trod] at hf
    | succ fuel =>
      simp only [DataW.trod, ht, hc, hct, Nat.mul_one, hl, if_true] at hf
      · obtain ⟨ys, hm, hx⟩ := Option.map_eq_some_iff.1 hf
        obtain ⟨b, hb, hfi⟩ := Lib.mapM_at hm i i (by simp [hin])
        obtain ⟨z, hcz, rfl, hwf⟩ := DataW.trod_int he hfi
        have h1 : cs[i]? = some (.int .u8 z) := by
          have := congrArg (·[0]?) hcz
          simpa [List.getElem?_take, List.getElem?_drop] using this
        obtain ⟨m, rfl, hm2⟩ : ∃ m : Nat, z = (m : Int) ∧ m < 256 := by
          have hr : IntKind.u8.min ≤ z ∧ z ≤ IntKind.u8.max := by simpa [Lit.wf] using hwf
          have hr : 0 ≤ z ∧ z ≤ 255 := hr
          exact ⟨z.toNat, by omega, by omega⟩
        exact ⟨UInt8.ofNat m, by rw [h1]; simp [Nat.mod_eq_of_lt hm2]⟩
  obtain ⟨l, h⟩ := list_of_each (fun b : UInt8 => Value.int .u8 (b.toNat : Nat)) cs hall
  refine ⟨l.map (·.toNat), by rw [h]; simp [b8], by rw [List.length_map, ← hl, h, List.length_map], fun x hx => ?_⟩
  obtain ⟨b, _, rfl⟩ := List.mem_map.1 hx
  exact b.toNat_lt
theorem open_key {H : Type} {enc : TypeId × Value → H} {w : World} {r : Reach} {b0 base : Nat} {sp : Nat → Bool} {held : Bool} {v : Value} {d : DataW H} {ps : List MemPlace}
    (hv : Value.okWide Tryd.prog w r b0 24 v) (h : DataW.Trod enc Tryd.prog w base sp held 24 v d ps) :
    ∃ l x, v = kv l x ∧ l.length = 32 ∧ By l := by
  obtain ⟨cs, rfl, hsz⟩ := okWide_struct Tryd.underlying24 hv
  have hsz : cs.size = 33 := hsz.trans (by kernel_rfl)
  obtain ⟨fuel, hf⟩ := h
  obtain ⟨y0, y1, n, _, _, h0, h1⟩ := trod_struct2 Tryd.underlying24 hf
  have hcl : cs.toList.length = 33 := by rw [Array.length_toList]; exact hsz
  have h0 : DataW.trod enc Tryd.prog w base sp held n 22 ((cs.toList.drop 0).take 32) = some y0 := h0
  have h1 : DataW.trod enc Tryd.prog w base sp held n 3 ((cs.toList.drop 32).take 1) = some y1 := h1
  obtain ⟨l, hl, hll, hb⟩ := bytes_trod Tryd.underlying22 Tryd.underlying5 (by kernel_rfl) (by kernel_rfl) (by rw [List.length_take, List.length_drop]; omega) h0
  obtain ⟨x, hx, _, _⟩ := DataW.trod_int Tryd.underlying3 h1
  refine ⟨l, x, ?_, hll, hb⟩
  unfold kv
  congr 1
  apply Array.ext'
  rw [List.drop_zero] at hl
  have e1 : (cs.toList.drop 32).take 1 = cs.toList.drop 32 := List.take_of_length_le (by rw [List.length_drop, hcl]; decide)
  have e2 : (b8 l ++ [Value.int .i64 x]).toArray.toList = b8 l ++ [Value.int .i64 x] := rfl
  rw [e2, ← hl, ← hx, e1, List.take_append_drop]
theorem open_b16 {H : Type} {enc : TypeId × Value → H} {w : World} {r : Reach} {b0 base : Nat} {sp : Nat → Bool} {held : Bool} {v : Value} {d : DataW H} {ps : List MemPlace}
    (hv : Value.okWide Tryd.prog w r b0 25 v) (h : DataW.Trod enc Tryd.prog w base sp held 25 v d ps) :
    ∃ l, v = .agg (b8 l).toArray ∧ l.length = 16 ∧ By l := by
  have ht := Tryd.underlying25
  simp only [Value.okWide, ht] at hv
  obtain ⟨xs, rfl, hsz, _⟩ := hv
  have hsz : xs.size = 16 := hsz.trans (by kernel_rfl)
  obtain ⟨fuel, hf⟩ := h
  obtain ⟨l, hl, hll, hb⟩ := bytes_trod Tryd.underlying25 Tryd.underlying5 (by kernel_rfl) (by kernel_rfl) (by rw [Array.length_toList]; exact hsz) hf
  refine ⟨l, ?_, hll, hb⟩
  congr 1
  apply Array.ext'
  rw [List.toList_toArray, ← hl]
  rfl
end Go.Proofs.YteleedcpepifjaaDoor
