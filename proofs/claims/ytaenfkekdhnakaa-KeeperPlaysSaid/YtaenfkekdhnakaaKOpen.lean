/-
The laws' configs and numbers, opened to their cells.
-/
import Derived.Test.YtaenfkekdhnakaaOpen
import Derived.Test.YtaenfkekdhnakaaKFew
import Derived.Lib.SmallJoins
import Derived.SliceStrings
namespace Go.Proofs.Ytaenfkekdhnakaa
open Go.RowKit Go.ChangeShapes Go.WideShapes Go.ChangeMaps

theorem strs_of {H : Type} {enc : TypeId × Value → H} {w : World} {base : Nat} {sp : Nat → Bool} {held : Bool} {fuel : Nat} {v : Value} {y : DataW H × List MemPlace} (h : DataW.trod enc Try.prog w base sp held fuel 22 [v] = some y) :
    ∃ ao n cap ns, v = .slice ao n cap ∧ n ≤ maxLen ∧ StrAt w ao n ns := by
  rcases open_strings Try.underlying22 Try.underlying9 (by kernel_rfl) h with ⟨hcs, hx⟩ | ⟨a, len, cap, ss, hcs, _, hl, hm, hz, hx, hcell, hsz⟩
  · simp only [List.cons.injEq, and_true] at hcs
    exact ⟨none, 0, 0, [], hcs, Nat.zero_le _, rfl, fun i hi => absurd hi (Nat.not_lt_zero _)⟩
  · simp only [List.cons.injEq, and_true] at hcs
    have hlm : len ≤ ss.length := by rw [hz]; split <;> omega
    refine ⟨some a, len, cap, ss.take len, hcs, Nat.le_trans hl hm, by rw [List.length_take]; omega, fun i hi => ?_⟩
    have h00 := hcell 0 (by omega)
    rw [Addr.add_zero'] at h00
    have hlt := cell_lt h00
    have hci := hcell i (by omega)
    obtain ⟨b, off, s⟩ := a
    have hs : s = none := hlt.2
    subst hs
    rw [Addr.add_lit] at hci
    refine ⟨b, off, rfl, hlt.1, ?_⟩
    rw [hci]
    congr 2
    rw [List.getD_eq_getElem?_getD, List.getD_eq_getElem?_getD, List.getElem?_take_of_lt hi]
    rfl
theorem open_cfg {H : Type} {enc : TypeId × Value → H} {w : World} {r : Reach} {b0 base : Nat} {sp : Nat → Bool} {held : Bool} {v : Value} {d : DataW H} {ps : List MemPlace}
    (hv : Value.okWide Try.prog w r b0 24 v) (h : DataW.Trod enc Try.prog w base sp held 24 v d ps) :
    ∃ ao n cap ns f m bt, v = .agg #[.slice ao n cap, .int .i64 f, .int .i64 m, .int .i64 bt] ∧ n ≤ maxLen ∧ StrAt w ao n ns := by
  obtain ⟨v0, v1, v2, v3, y0, y1, y2, y3, n, rfl, _, _, h0, h1, h2, h3⟩ := Joins.open_agg4 Try.underlying24 (by kernel_rfl) (by kernel_rfl) hv h
  obtain ⟨ao, n, cap, ns, rfl, hn, hs⟩ := strs_of h0
  obtain ⟨x1, e1, _, _⟩ := DataW.trod_int Try.underlying3 h1
  obtain ⟨x2, e2, _, _⟩ := DataW.trod_int Try.underlying3 h2
  obtain ⟨x3, e3, _, _⟩ := DataW.trod_int Try.underlying3 h3
  simp only [List.cons.injEq, and_true] at e1 e2 e3
  subst e1; subst e2; subst e3
  exact ⟨ao, n, cap, ns, x1, x2, x3, rfl, hn, hs⟩
end Go.Proofs.Ytaenfkekdhnakaa
