/-
api.Code: the number of a sentinel; what the listed variables give.
-/
import Derived.Test.YtcopmaceklgfnaaDoorErr
namespace Go.Proofs.YtcopmaceklgfnaaDoor
open Go.RowKit Go.Extern.Stop Go.Stop Go.Extern Go.ChangeShapes

def errGs : List Nat := [1, 2, 3, 0, 4, 5, 6, 7, 8, 9, 10, 11, 12, 13, 14, 15, 16, 17, 18, 19]

theorem esRow : ∀ u, Tryd.prog.typeName? 3 u = some "*errors.errorString" → u = 73 := typeName_ptr_named (nm := "errors.errorString") (by kernel_rfl) (by kernel_rfl) (by decide)

theorem errInfo : (Tryd.prog.info? 26).map (·.size) = some 1 := by kernel_rfl
/-- the element of an array literal -/
theorem run_index_agg {P : Program} {t e : TypeId} {n : Nat} {ms : Array (String × TypeId)} {i : TypeInfo} {xs : Array Value} (ht : P.underlying t = some (.array n e)) (he : P.underlying e = some (.interface ms)) (hi : P.info? e = some i) (hz : i.size = 1) (k : Nat) (hk : k < n) {v : Value} (hv : xs[k]? = some v)
    (w : World) : (Instr.index t (.agg xs) (.int .i64 k)).run P w = .ok v w := by
  simp [Instr.index, run_underlying ht, hk, part, isAgg, run_underlying he, sizeOf, typeInfo, hi, hz, hv, asIntOf]

/-- the variables 'gs' hold sentinels at the addresses 'ad', all different -/
structure SentF (W : World) (tp : TypeId) (gs : List Nat) (ad : Nat → Addr) : Prop where
  cell : ∀ i, i < gs.length → W.cell? ⟨gs.getD i 0, 0, none⟩ = some (.iface tp (.pointer (some (ad i))))
  row : ∀ i, i < gs.length → ∃ c t, W.heap[(ad i).block]? = some (.cells c t (0, 0))
  inj : ∀ i j, i < j → j < gs.length → ad j ≠ ad i

theorem Sents.fn {W : World} {tp : TypeId} {gs : List Nat} {ads : List Addr} (h : Sents W tp gs ads) : SentF W tp gs (fun i => ads.getD i ⟨0, 0, none⟩) where
  cell := h.cell
  row := h.row
  inj := fun i j hij hj he => by
    have hl := h.len
    have hi' : i < ads.length := by omega
    have hj' : j < ads.length := by omega
    simp only [List.getD_eq_getElem?_getD, List.getElem?_eq_getElem hi', List.getElem?_eq_getElem hj', Option.getD_some] at he
    have := (List.getElem_inj h.nodup).1 he
    omega

theorem SentF.same {W W' : World} {tp : TypeId} {gs : List Nat} {ad : Nat → Addr} (h : SentF W tp gs ad) (hb : Below W.heap.size W W') : SentF W' tp gs ad where
  cell := fun i hi => by
    have := h.cell i hi
    rw [hb.cell (cell_lt this).1]; exact this
  row := fun i hi => by
    obtain ⟨c, t, hr⟩ := h.row i hi
    exact ⟨c, t, by rw [hb.block _ (Array.getElem?_eq_some_iff.1 hr).1]; exact hr⟩
  inj := h.inj

set_option maxHeartbeats 1000000 in
theorem code_ok (ad : Nat → Addr) (w : World) (hS : SentF w 73 errGs ad) (j : Nat) (hj : j < 20) :
    Calls Tryd.prog 13 #[.iface 73 (.pointer (some (ad j)))] w fun e w' => e = .returned (.int .i64 (j + 1 : Nat)) ∧ w = w' := by
  have c0 : w.cell? ⟨1, 0, none⟩ = some (.iface 73 (.pointer (some (ad 0)))) := hS.cell 0 (by decide)
  have c1 : w.cell? ⟨2, 0, none⟩ = some (.iface 73 (.pointer (some (ad 1)))) := hS.cell 1 (by decide)
  have c2 : w.cell? ⟨3, 0, none⟩ = some (.iface 73 (.pointer (some (ad 2)))) := hS.cell 2 (by decide)
  have c3 : w.cell? ⟨0, 0, none⟩ = some (.iface 73 (.pointer (some (ad 3)))) := hS.cell 3 (by decide)
  have c4 : w.cell? ⟨4, 0, none⟩ = some (.iface 73 (.pointer (some (ad 4)))) := hS.cell 4 (by decide)
  have c5 : w.cell? ⟨5, 0, none⟩ = some (.iface 73 (.pointer (some (ad 5)))) := hS.cell 5 (by decide)
  have c6 : w.cell? ⟨6, 0, none⟩ = some (.iface 73 (.pointer (some (ad 6)))) := hS.cell 6 (by decide)
  have c7 : w.cell? ⟨7, 0, none⟩ = some (.iface 73 (.pointer (some (ad 7)))) := hS.cell 7 (by decide)
  have c8 : w.cell? ⟨8, 0, none⟩ = some (.iface 73 (.pointer (some (ad 8)))) := hS.cell 8 (by decide)
  have c9 : w.cell? ⟨9, 0, none⟩ = some (.iface 73 (.pointer (some (ad 9)))) := hS.cell 9 (by decide)
  have c10 : w.cell? ⟨10, 0, none⟩ = some (.iface 73 (.pointer (some (ad 10)))) := hS.cell 10 (by decide)
  have c11 : w.cell? ⟨11, 0, none⟩ = some (.iface 73 (.pointer (some (ad 11)))) := hS.cell 11 (by decide)
  have c12 : w.cell? ⟨12, 0, none⟩ = some (.iface 73 (.pointer (some (ad 12)))) := hS.cell 12 (by decide)
  have c13 : w.cell? ⟨13, 0, none⟩ = some (.iface 73 (.pointer (some (ad 13)))) := hS.cell 13 (by decide)
  have c14 : w.cell? ⟨14, 0, none⟩ = some (.iface 73 (.pointer (some (ad 14)))) := hS.cell 14 (by decide)
  have c15 : w.cell? ⟨15, 0, none⟩ = some (.iface 73 (.pointer (some (ad 15)))) := hS.cell 15 (by decide)
  have c16 : w.cell? ⟨16, 0, none⟩ = some (.iface 73 (.pointer (some (ad 16)))) := hS.cell 16 (by decide)
  have c17 : w.cell? ⟨17, 0, none⟩ = some (.iface 73 (.pointer (some (ad 17)))) := hS.cell 17 (by decide)
  have c18 : w.cell? ⟨18, 0, none⟩ = some (.iface 73 (.pointer (some (ad 18)))) := hS.cell 18 (by decide)
  have c19 : w.cell? ⟨19, 0, none⟩ = some (.iface 73 (.pointer (some (ad 19)))) := hS.cell 19 (by decide)
  have hidx : ∀ k : Nat, k < 20 → ∀ W : World, (Instr.index 48 (.agg #[.iface 73 (.pointer (some (ad 0))), .iface 73 (.pointer (some (ad 1))), .iface 73 (.pointer (some (ad 2))), .iface 73 (.pointer (some (ad 3))), .iface 73 (.pointer (some (ad 4))), .iface 73 (.pointer (some (ad 5))), .iface 73 (.pointer (some (ad 6))), .iface 73 (.pointer (some (ad 7))), .iface 73 (.pointer (some (ad 8))), .iface 73 (.pointer (some (ad 9))), .iface 73 (.pointer (some (ad 10))), .iface 73 (.pointer (some (ad 11))), .iface 73 (.pointer (some (ad 12))), .iface 73 (.pointer (some (ad 13))), .iface 73 (.pointer (some (ad 14))), .iface 73 (.pointer (some (ad 15))), .iface 73 (.pointer (some (ad 16))), .iface 73 (.pointer (some (ad 17))), .iface 73 (.pointer (some (ad 18))), .iface 73 (.pointer (some (ad 19)))]) (.int .i64 (k : Int))).run Tryd.prog W = .ok (.iface 73 (.pointer (some (ad k)))) W := by
    intro k hk W
    obtain ⟨i, hi, hz⟩ := Option.map_eq_some_iff.1 errInfo
    refine run_index_agg Tryd.underlying48 Tryd.underlying26 hi hz k hk ?_ W
    show ((List.range 20).map fun k => Value.iface 73 (.pointer (some (ad k)))).toArray[k]? = _
    simp [hk]
  have HI := Lib.hid hidx
  clear hidx
  go_enter Tryd.func13, Tryd.ntmps13
  go_wp2
  go_loop [28] (fun i => ∃ k : Nat, k ≤ j ∧ i = .int .i64 k) (fun i => 20 - (intOf i).toNat)
  case atStart => exact ⟨0, by omega, rfl⟩
  case round =>
    obtain ⟨k, hk, rfl⟩ := hrel
    have hk20 : k < 20 := by omega
    have hix := HI.out k hk20
    by_cases hkj : k < j
    · go_wp2_with fail
      refine (is_other _ _ _ (hS.inj k j hkj hj) (hS.row j hj) (hS.row k hk20)).mono ?_
      rintro e w' ⟨rfl, rfl⟩
      go_wp2_with fail
      go_round
      case rel => exact ⟨k + 1, by omega, by go_num⟩
      case measure => simp [intOf]; omega
    · obtain rfl : k = j := by omega
      go_wp2_with fail
      refine (is_same _ _).mono ?_
      rintro e w' ⟨rfl, rfl⟩
      go_wp2_with fail
      go_ret
      exact ⟨rfl, rfl⟩
theorem code_nil (w : World) : Calls Tryd.prog 13 #[.nilIface] w fun e w' => e = .returned (.int .i64 0) ∧ w = w' := by
  go_enter Tryd.func13, Tryd.ntmps13
  go_wp2
  go_ret
  exact ⟨rfl, rfl⟩

/-- What a list of sentinels gives. -/
theorem sents_of {laid : List (String × DataW Unit)} {gs : List Nat} {W : World} (hpl : ∀ w : World, laidMetH Tryd.prog laid w = laidMet Tryd.prog laid w) (h : laidMetH Tryd.prog laid W) (hall : (laid.all fun x => sentB "*errors.errorString" x.2) = true)
    (hgs : laid.map (fun x => Tryd.prog.globalNamed x.1) = gs.map some) (hts : (gs.all fun g => (Tryd.prog.globals[g]?).map (·.type) == some 26) = true) : ∃ ad, SentF W 73 gs ad := by
  rw [hpl] at h
  obtain ⟨ps, hv, hnd, hrows⟩ := h
  obtain ⟨ads, hS, _⟩ := sents_aux Tryd.underlying26 esRow Tryd.underlying73 Tryd.underlying97 rfl rfl Tryd.underlying9 (by kernel_rfl) (by kernel_rfl) laid gs ps hv hnd hrows hall hgs
    (fun g hg => by simpa using List.all_eq_true.1 hts g hg)
  exact ⟨_, hS.fn⟩
end Go.Proofs.YtcopmaceklgfnaaDoor
