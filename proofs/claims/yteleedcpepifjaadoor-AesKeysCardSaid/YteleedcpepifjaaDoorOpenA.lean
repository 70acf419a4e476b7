/-
Openers of a law's arguments: arrays of bytes.
-/
import Derived.Test.YteleedcpepifjaaDoorOpen
import Derived.Lib.LaidTab
namespace Go.Proofs.YteleedcpepifjaaDoor
open Go.RowKit Go.ChangeShapes Go.WideShapes Go.ChangeMaps

theorem list_of_each {α β : Type} (f : α → β) : ∀ (L : List β), (∀ i, i < L.length → ∃ a, L[i]? = some (f a)) → ∃ l : List α, L = l.map f
  | [], _ => ⟨[], rfl⟩
  | x :: L, h => by
    obtain ⟨a, ha⟩ := h 0 (Nat.zero_lt_succ _)
    obtain ⟨l, rfl⟩ := list_of_each f L fun i hi => by
      obtain ⟨b, hb⟩ := h (i + 1) (Nat.succ_lt_succ hi)
      exact ⟨b, by simpa using hb⟩
    exact ⟨a :: l, by simp at ha; rw [ha]; rfl⟩

/-- An array of bytes that came in. -/
theorem open_byte_array {H : Type} {enc : TypeId × Value → H} {P : Program} {w : World} {r : Reach} {b0 base : Nat} {sp : Nat → Bool} {held : Bool} {t e : TypeId} {n : Nat} {v : Value} {d : DataW H} {ps : List MemPlace}
    (ht : P.underlying t = some (.array n e)) (he : P.underlying e = some (.int .u8)) (hc : P.cellsOf e = 1) (hct : P.cellsOf t = n) (hval : Value.okWide P w r b0 t v) (h : DataW.Trod enc P w base sp held t v d ps) :
    ∃ l : List UInt8, v = .agg (l.map fun b => Value.int .u8 (b.toNat : Nat)).toArray ∧ l.length = n := by
  simp only [Value.okWide, ht] at hval
  obtain ⟨xs, rfl, hsz, _⟩ := hval
  rw [hct] at hsz
  obtain ⟨fuel, hf⟩ := h
  have hall : ∀ i, i < xs.toList.length → ∃ b : UInt8, xs.toList[i]? = some (Value.int .u8 (b.toNat : Nat)) := by
    intro i hi
    have hin : i < n := by rw [← hsz, ← Array.length_toList]; exact hi
    cases fuel with
    | zero => simp [DataW.trod] at hf
    | succ fuel =>
      simp only [DataW.trod, ht, hc, hct, Nat.mul_one, Value.cells] at hf
      split at hf
      · obtain ⟨ys, hm, hx⟩ := Option.map_eq_some_iff.1 hf
        obtain ⟨b, hb, hfi⟩ := Lib.mapM_at hm i i (by simp [hin])
        obtain ⟨z, hcz, rfl, hwf⟩ := DataW.trod_int he hfi
        have h1 : xs.toList[i]? = some (.int .u8 z) := by
          have := congrArg (·[0]?) hcz
          simpa [List.getElem?_take, List.getElem?_drop] using this
        obtain ⟨m, rfl, hm2⟩ : ∃ m : Nat, z = (m : Int) ∧ m < 256 := by
          have hr : IntKind.u8.min ≤ z ∧ z ≤ IntKind.u8.max := by simpa [Lit.wf] using hwf
          have hr : 0 ≤ z ∧ z ≤ 255 := hr
          exact ⟨z.toNat, by omega, by omega⟩
        exact ⟨UInt8.ofNat m, by rw [h1]; simp [Nat.mod_eq_of_lt hm2]⟩
      · cases hf
  obtain ⟨l, hl⟩ := list_of_each _ _ hall
  refine ⟨l, by rw [← hl], ?_⟩
  have := congrArg List.length hl
  simp at this
  omega
theorem u8_nat {x : Int} (h : (Lit.int .u8 x).wf = true) : ∃ n : Nat, x = n ∧ n < 256 := by
  have hb := bounds_u8 h
  exact ⟨x.toNat, by omega, by omega⟩
end Go.Proofs.YteleedcpepifjaaDoor
