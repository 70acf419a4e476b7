/-
errors.Is at two of the own sentinels, and api.Code: the number of a sentinel.
-/
import Derived.Test.YtcopmaceklgfnaaDoorRows
import Derived.Test.YtcopmaceklgfnaaDoorCom
import Derived.Test.YtcopmaceklgfnaaDoorOpen
import Derived.LaidEql
import Derived.Stop.Asserts
import Derived.Stop.LaidErr
import Derived.RowKitTokens
import Derived.LoopTactic
import Derived.Outline
namespace Go.Proofs.YtcopmaceklgfnaaDoor
open Go.RowKit Go.Extern.Stop Go.Stop Go.Extern Go.ChangeShapes

/-- what the model runs for reflectlite's Comparable -/
def cmpFn : TypeId → Sem Value := fun t => do Extern.Rtype.noPackHeld "Comparable" t; pure (.bool (← typeInfo t).comparable)
theorem isTypeOf (v : Value) (w : World) : (Extern.ReflectliteType.typeOf #[.iface 73 v]).run Tryd.prog w = .ok (.iface 57 (.agg #[.pointer (some ⟨21, 73, none⟩)])) w := by kernel_rfl
theorem isComparable (w : World) : (Extern.ReflectliteType.method cmpFn #[.agg #[.pointer (some ⟨21, 73, none⟩)]]).run Tryd.prog w = .ok (.bool true) w := by kernel_rfl
theorem isMethodComparable (v : Value) (w : World) : (Go.method 208 57 v "Comparable").run Tryd.prog w = .ok (61, v) w := by kernel_rfl
theorem isComp : (Tryd.prog.info? 73).map (·.comparable) = some true := by kernel_rfl
theorem isSize : (Tryd.prog.info? 97).map (·.size) = some 1 := by kernel_rfl
theorem noIsE (v : Value) (xT : TypeId) (w : World) : (Instr.typeAssert (.iface 73 v) xT 59 true).run Tryd.prog w = .ok (.tuple #[.nilIface, .bool false]) w := run_typeAssert_lacksB Tryd.underlying59 (by kernel_rfl) (by kernel_rfl) v xT w
theorem noUnwrapE (v : Value) (xT : TypeId) (w : World) : (Instr.typeAssert (.iface 73 v) xT 62 true).run Tryd.prog w = .ok (.tuple #[.nilIface, .bool false]) w := run_typeAssert_lacksB Tryd.underlying62 (by kernel_rfl) (by kernel_rfl) v xT w
theorem noUnwrapsE (v : Value) (xT : TypeId) (w : World) : (Instr.typeAssert (.iface 73 v) xT 64 true).run Tryd.prog w = .ok (.tuple #[.nilIface, .bool false]) w := run_typeAssert_lacksB Tryd.underlying64 (by kernel_rfl) (by kernel_rfl) v xT w

/-- errors.Is(x, x), x a pointer to an errors.errorString. -/
theorem is_same (a : Addr) (w : World) :
    Calls Tryd.prog 22 #[.iface 73 (.pointer (some a)), .iface 73 (.pointer (some a))] w fun e w' => e = .returned (.bool true) ∧ w = w' := by
  obtain ⟨i, hi, hcmp⟩ := Option.map_eq_some_iff.1 isComp
  obtain ⟨j, hj, hjs⟩ := Option.map_eq_some_iff.1 isSize
  have h8 := @run_callFunc_extern Tryd.prog 29 _ Extern.ReflectliteType.typeOf Tryd.func29 (by kernel_rfl) (by kernel_rfl) (by kernel_rfl) (by kernel_rfl)
  have h32 := @run_callFunc_extern Tryd.prog 61 _ (Extern.ReflectliteType.method cmpFn) Tryd.func61 (by kernel_rfl) (by kernel_rfl) (by kernel_rfl) (by kernel_rfl)
  have tT := isTypeOf
  have cT := isComparable
  have mR := isMethodComparable
  have heq := run_eql_iface_ptr_same (P := Tryd.prog) w a Tryd.underlying26 Tryd.underlying73 hi hcmp hj
  go_enter Tryd.func22, Tryd.ntmps22
  go_wp2
  refine wp_loop_rounds 1 ?_
  rw [rounds_succ]
  go_wp2
  go_ret
  exact ⟨rfl, rfl⟩

/-- errors.Is(x, y), two different pointers to errors.errorString: neither has Is nor Unwrap: false. -/
theorem is_other (a b : Addr) (w : World) (hne : a ≠ b) (ha : ∃ ca ta, w.heap[a.block]? = some (.cells ca ta (0, 0))) (hb : ∃ cb tb, w.heap[b.block]? = some (.cells cb tb (0, 0))) :
    Calls Tryd.prog 22 #[.iface 73 (.pointer (some a)), .iface 73 (.pointer (some b))] w fun e w' => e = .returned (.bool false) ∧ w = w' := by
  obtain ⟨ca, ta, ha⟩ := ha
  obtain ⟨cb, tb, hb⟩ := hb
  obtain ⟨i, hi, hcmp⟩ := Option.map_eq_some_iff.1 isComp
  obtain ⟨j, hj, hjs⟩ := Option.map_eq_some_iff.1 isSize
  have h8 := @run_callFunc_extern Tryd.prog 29 _ Extern.ReflectliteType.typeOf Tryd.func29 (by kernel_rfl) (by kernel_rfl) (by kernel_rfl) (by kernel_rfl)
  have h32 := @run_callFunc_extern Tryd.prog 61 _ (Extern.ReflectliteType.method cmpFn) Tryd.func61 (by kernel_rfl) (by kernel_rfl) (by kernel_rfl) (by kernel_rfl)
  have tT := isTypeOf
  have cT := isComparable
  have mR := isMethodComparable
  have nE := noIsE
  have uE := noUnwrapE
  have vE := noUnwrapsE
  have heq := run_eql_iface_ptr_other (P := Tryd.prog) w Tryd.underlying26 Tryd.underlying73 hi hcmp hj (by rw [hjs]; decide) hne ha hb
  go_enter Tryd.func22, Tryd.ntmps22
  go_wp2
  refine wp_loop_rounds 1 ?_
  rw [rounds_succ]
  go_wp2
  go_ret
  exact ⟨rfl, rfl⟩

/-! ### The listed sentinels -/
def sentB (nm : String) : DataW Unit → Bool
  | .iface n (.ptr (.agg [.lit (.string _)])) => n == nm
  | _ => false
theorem sentB_of {nm : String} {d : DataW Unit} (h : sentB nm d = true) : ∃ text, d = .iface nm (.ptr (.agg [.lit (.string text)])) := by
  unfold sentB at h
  split at h
  · rename_i n text
    obtain rfl : n = nm := by simpa using h
    exact ⟨text, rfl⟩
  · cases h

/-- the variables 'gs' hold sentinels at the addresses 'ads', all different -/
structure Sents (W : World) (tp : TypeId) (gs : List Nat) (ads : List Addr) : Prop where
  len : ads.length = gs.length
  nodup : ads.Nodup
  cell : ∀ i, i < gs.length → W.cell? ⟨gs.getD i 0, 0, none⟩ = some (.iface tp (.pointer (some (ads.getD i ⟨0, 0, none⟩))))
  row : ∀ i, i < gs.length → ∃ c t, W.heap[(ads.getD i ⟨0, 0, none⟩).block]? = some (.cells c t (0, 0))

theorem sents_aux {P : Program} {nm : String} {W : World} {ti tp te ts : TypeId} {ms : Array (String × TypeId)} {f : Field}
    (hi : P.underlying ti = some (.interface ms)) (hrow : ∀ u, P.typeName? 3 u = some nm → u = tp)
    (hp : P.underlying tp = some (.pointer te)) (he : P.underlying te = some (.struct #[f])) (hft : f.type = ts) (hfo : f.offset = 0) (hs : P.underlying ts = some .string) (hc : P.cellsOf te = 1) (hcs : P.cellsOf ts = 1) :
    ∀ (l : List (String × DataW Unit)) (gs : List Nat) (ps : List MemPlace), DataW.LaidVars P W l ps → ps.Nodup →
      (∀ b off, MemPlace.cell b off ∈ ps → (∃ c t, W.heap[b]? = some (.cells c t (0, 0))) ∧ ∀ u v, W.cell? ⟨b, off, none⟩ = some (.iface u v) → Value.okWide P W .any 0 u v) →
      (l.all fun x => sentB nm x.2) = true → l.map (fun x => P.globalNamed x.1) = gs.map some → (∀ g ∈ gs, (P.globals[g]?).map (·.type) = some ti) →
      ∃ ads, Sents W tp gs ads ∧ ∀ a ∈ ads, a.spot = none ∧ MemPlace.cell a.block a.off ∈ ps
  | [], gs, ps, _, _, _, _, hgs, _ => by
    obtain rfl : gs = [] := by cases gs <;> simp_all
    exact ⟨[], ⟨rfl, List.nodup_nil, fun i h => absurd h (Nat.not_lt_zero _), fun i h => absurd h (Nat.not_lt_zero _)⟩, fun a h => by cases h⟩
  | x :: l, gs, ps, hv, hnd, hrows, hall, hgs, hts => by
    obtain ⟨n, d⟩ := x
    simp only [List.all_cons, Bool.and_eq_true] at hall
    obtain ⟨text, rfl⟩ := sentB_of hall.1
    match gs, hgs, hts with
    | [], hgs, _ => simp at hgs
    | g :: gs, hgs, hts =>
      simp only [List.map_cons, List.cons.injEq] at hgs
      obtain ⟨g0, t0, cs0, f0, p0, q0, hg0, ht0, hv0, hd0, hr, rfl⟩ := hv
      obtain rfl := Option.some.inj (hgs.1.symm.trans hg0)
      obtain rfl := Option.some.inj ((hts g (by simp)).symm.trans ht0)
      obtain ⟨l0⟩ := cs0
      have ok0 : ∀ u v, l0 = [.iface u v] → Value.okWide P W .any 0 u v := fun u v e => by
        subst e
        exact (hrows g 0 (by simp [MemPlace.row])).2 u v (by simpa using World.var?_cell hg0 hv0 0)
      obtain ⟨a0, s0, rfl, hc0, hs0, hz0, rfl⟩ := errorString_of_trod hi hrow hp he hft hfo hs hc hcs hd0 ok0
      have hnd2 := List.nodup_append.1 hnd
      obtain ⟨ads, hS, hin⟩ := sents_aux hi hrow hp he hft hfo hs hc hcs l gs q0 hr hnd2.2.1 (fun b off h => hrows b off (List.mem_append_right _ h)) hall.2 hgs.2 (fun g hg => hts g (List.mem_cons_of_mem _ hg))
      have hsp : a0.spot = none := (cell_lt hc0).2
      refine ⟨a0 :: ads, ⟨by simp [hS.len], ?_, ?_, ?_⟩, ?_⟩
      · refine List.nodup_cons.2 ⟨fun hmem => ?_, hS.nodup⟩
        exact hnd2.2.2 (MemPlace.cell a0.block a0.off) (by simp [MemPlace.row]) _ (hin a0 hmem).2 rfl
      · intro i hi'
        cases i with
        | zero => simpa using World.var?_cell hg0 hv0 0
        | succ i => simpa using hS.cell i (by simpa using hi')
      · intro i hi'
        cases i with
        | zero => simpa using (hrows a0.block a0.off (by simp [MemPlace.row])).1
        | succ i => simpa using hS.row i (by simpa using hi')
      · intro a ha
        rcases List.mem_cons.1 ha with rfl | ha
        · exact ⟨hsp, by simp [MemPlace.row]⟩
        · exact ⟨(hin a ha).1, List.mem_append_right _ (hin a ha).2⟩
end Go.Proofs.YtcopmaceklgfnaaDoor
