/-
Points of the curve in memory: two elements, ten cells.
-/
import Derived.Deep.MidRow
import Derived.Test.YtilccncddbgpbaaDoorPk29
import Derived.Test.YtilccncddbgpbaaDoorPk31
namespace Go.Proofs.YtilccncddbgpbaaDoor
open Go.RowKit

abbrev tP : TypeId := 81
def zero10 : List Nat := [0, 0, 0, 0, 0, 0, 0, 0, 0, 0]
theorem pt_size : (Tryd.prog.info? tP).map (·.size) = some 10 := by kernel_rfl
theorem run_alloc_pt (w : World) : (Instr.alloc tP true (.tuple #[])).run Tryd.prog w = .ok (.pointer (some ⟨w.heap.size, 0, none⟩)) (w.alloc (.cells (uvals zero10).toArray tP)) := by kernel_rfl
theorem bld (l m : List Nat) (hl : l.length = 5) (hm : m.length = 5) (w : World) : (Instr.build tP #[(0, .agg (uvals l).toArray), (1, .agg (uvals m).toArray)]).run Tryd.prog w = .ok (.agg (uvals (l ++ m)).toArray) w := by
  obtain ⟨a, b, c, d, e, rfl⟩ := five l hl
  obtain ⟨a', b', c', d', e', rfl⟩ := five m hm
  exact run_build w tP _ _ (by kernel_rfl)
/-- a point's block -/
def PB (w : World) (b : Nat) (l m : List Nat) : Prop := Blk w b tP (uvals (l ++ m)) ∧ l.length = 5 ∧ m.length = 5
theorem uvals_append (l m : List Nat) : uvals (l ++ m) = uvals l ++ uvals m := by simp [uvals]
theorem PB.below {w w' : World} {b : Nat} {l m : List Nat} (h : PB w b l m) (hb : Below w.heap.size w w') : PB w' b l m := ⟨h.1.below hb h.1.lt, h.2⟩
theorem PB.lt {w : World} {b : Nat} {l m : List Nat} (h : PB w b l m) : b < w.heap.size := h.1.lt
theorem PB.keeps {w w' : World} {b : Nat} {l m : List Nat} {F : Nat → Prop} (h : PB w b l m) (hk : Keeps F w w') (hn : ¬ F b) : PB w' b l m := ⟨hk.blk h.1 hn, h.2⟩
theorem PB.x {w : World} {b : Nat} {l m : List Nat} (h : PB w b l m) : w.rangeAt b 0 (uvals l) := fun j v hv => by
  refine h.1.cell (0 + j) v ?_
  rw [Nat.zero_add, uvals_append, List.getElem?_append_left (by have := (List.getElem?_eq_some_iff.1 hv).1; exact this)]
  exact hv
theorem PB.z {w : World} {b : Nat} {l m : List Nat} (h : PB w b l m) : w.rangeAt b 5 (uvals m) := fun j v hv => by
  refine h.1.cell (5 + j) v ?_
  have e : (uvals l).length = 5 := by rw [uvals_len]; exact h.2.1
  rw [uvals_append, List.getElem?_append_right (by omega), e, Nat.add_sub_cancel_left]
  exact hv
theorem PB.len {w : World} {b : Nat} {l m : List Nat} (h : PB w b l m) : (uvals (l ++ m)).length = 10 := by rw [uvals_len, List.length_append, h.2.1, h.2.2]
theorem Keeps.row {F : Nat → Prop} {a w : World} (h : Keeps F a w) (b : Nat) (r : Array Value) (hb : b < a.heap.size → F b) : Keeps F a (w.setRow b r) :=
  ⟨h.os, h.tape, h.output, by simpa using h.size, fun i hi hn => (setRow_other _ _ _ _ (fun e => hn (by subst e; exact hb hi))).trans (h.block i hi hn)⟩
/-- a point's block, by its two numbers -/
def Pk (w : World) (b : Nat) (X Z : Fp) : Prop := ∃ l m, PB w b l m ∧ Lm l X.val ∧ Lm m Z.val
theorem Pk.below {w w' : World} {b : Nat} {X Z : Fp} (h : Pk w b X Z) (hb : Below w.heap.size w w') : Pk w' b X Z := let ⟨l, m, h1, h2, h3⟩ := h; ⟨l, m, h1.below hb, h2, h3⟩
theorem Pk.keeps {w w' : World} {b : Nat} {X Z : Fp} {F : Nat → Prop} (h : Pk w b X Z) (hk : Keeps F w w') (hn : ¬ F b) : Pk w' b X Z := let ⟨l, m, h1, h2, h3⟩ := h; ⟨l, m, h1.keeps hk hn, h2, h3⟩
theorem load_mid {ops : Array Oper} {rest : List Oper} {o : Oper} {a : Act} {w : World} {Q : Exit → Act → World → Prop} {b k : Nat} {x : Operand} {l : List Nat} (hr : w.rangeAt b k (uvals l)) (hl : l.length = 5)
    (hg : Region.wanted o (yielded ops a.tmps) = true) (ho : o.op = .load tE x) (hx : a.eval x = .pointer (some ⟨b, k, none⟩)) (h : wpList Tryd.prog ops Q rest (a.put o.dst (.agg (uvals l).toArray)) w) : wpList Tryd.prog ops Q (o :: rest) a w := by
  unfold wpList
  rw [if_pos hg]
  refine .inl ?_
  unfold Oper.wp execOp
  simp only [ho, hx, run_loadAt_mid w b k tE (uvals l) _ hr Tryd.underlying30 rfl (by rw [elem_size]; simp [uvals_len, hl]), Sem.run_bind, Sem.run_pure, Result.andThen_ok]
  exact h
theorem load_pt {ops : Array Oper} {rest : List Oper} {o : Oper} {a : Act} {w : World} {Q : Exit → Act → World → Prop} {b : Nat} {x : Operand} {l m : List Nat} (hb : PB w b l m)
    (hg : Region.wanted o (yielded ops a.tmps) = true) (ho : o.op = .load tP x) (hx : a.eval x = .pointer (some ⟨b, 0, none⟩)) (h : wpList Tryd.prog ops Q rest (a.put o.dst (.agg (uvals (l ++ m)).toArray)) w) : wpList Tryd.prog ops Q (o :: rest) a w := by
  unfold wpList
  rw [if_pos hg]
  exact .inl (wp_load_row tP x ho b hx tP _ (0, 0) _ hb.1 Tryd.underlying81 rfl (by rw [pt_size]; simp [hb.len]) h)
/-! drift -/
theorem drift_loadM {ops : Array Oper} {w0 : World} {a : Act} {o : Oper} {K : Act → Prop} {b k : Nat} {x : Operand} {l : List Nat} (hr : ∀ w, Rw w0 w → w.rangeAt b k (uvals l)) (hl : l.length = 5)
    (hg : Region.wanted o (yielded ops a.tmps) = true) (ho : o.op = .load tE x) (hx : a.eval x = .pointer (some ⟨b, k, none⟩)) (h : K (a.put o.dst (.agg (uvals l).toArray))) :
    if Region.wanted o (yielded ops a.tmps) then ∃ v, (∀ w, Rw w0 w → o.quietAt Tryd.prog a (Rw w) w v) ∧ K (a.put o.dst v) else K (a.put o.dst undef) :=
  drift_plain (.agg (uvals l).toArray) hg (fun w hw => by
    unfold execOp
    simp only [ho, hx, run_loadAt_mid w b k tE (uvals l) _ (hr w hw) Tryd.underlying30 rfl (by rw [elem_size]; simp [uvals_len, hl]), Sem.run_bind, Sem.run_pure, Result.andThen_ok]) h
theorem quiet_loadM {ops : Array Oper} {C : World → Prop} {a : Act} {o : Oper} {K : Act → Prop} {b k : Nat} {x : Operand} {l : List Nat} (hr : ∀ w, C w → w.rangeAt b k (uvals l)) (hl : l.length = 5)
    (hg : Region.wanted o (yielded ops a.tmps) = true) (ho : o.op = .load tE x) (hx : a.eval x = .pointer (some ⟨b, k, none⟩)) (h : K (a.put o.dst (.agg (uvals l).toArray))) :
    if Region.wanted o (yielded ops a.tmps) then o.quiet Tryd.prog a C K else K (a.put o.dst undef) :=
  quiet_plainG (.agg (uvals l).toArray) hg (fun w hw => by
    unfold execOp
    simp only [ho, hx, run_loadAt_mid w b k tE (uvals l) _ (hr w hw) Tryd.underlying30 rfl (by rw [elem_size]; simp [uvals_len, hl]), Sem.run_bind, Sem.run_pure, Result.andThen_ok]) h
theorem quiet_loadP {ops : Array Oper} {C : World → Prop} {a : Act} {o : Oper} {K : Act → Prop} {b : Nat} {x : Operand} {l m : List Nat} (hb : ∀ w, C w → PB w b l m)
    (hg : Region.wanted o (yielded ops a.tmps) = true) (ho : o.op = .load tP x) (hx : a.eval x = .pointer (some ⟨b, 0, none⟩)) (h : K (a.put o.dst (.agg (uvals (l ++ m)).toArray))) :
    if Region.wanted o (yielded ops a.tmps) then o.quiet Tryd.prog a C K else K (a.put o.dst undef) :=
  quiet_plainG (.agg (uvals (l ++ m)).toArray) hg (fun w hw => by
    unfold execOp
    simp only [ho, hx, Instr.loadAt, Instr.sureAddr, Sem.run_bind, Sem.run_pure, Result.andThen_ok, run_loadVar_row w b tP tP (uvals (l ++ m)).toArray (0, 0) _ (hb w hw).1 Tryd.underlying81 rfl (by rw [pt_size]; simp [(hb w hw).len])]) h
theorem run_bld {a : Act} {o : Oper} {x y : Operand} {l m : List Nat} (ho : o.op = .build tP #[(0, x), (1, y)]) (hx : a.eval x = .agg (uvals l).toArray) (hy : a.eval y = .agg (uvals m).toArray) (hl : l.length = 5) (hm : m.length = 5) (w : World) :
    (execOp a.eval o).run Tryd.prog w = .ok (.value (.agg (uvals (l ++ m)).toArray)) w := by
  have h := bld l m hl hm w
  unfold execOp
  simp only [ho]
  simp [hx, hy, h]
theorem drift_build {ops : Array Oper} {w0 : World} {a : Act} {o : Oper} {K : Act → Prop} {x y : Operand} {l m : List Nat} (hl : l.length = 5) (hm : m.length = 5) (hg : Region.wanted o (yielded ops a.tmps) = true) (ho : o.op = .build tP #[(0, x), (1, y)])
    (hx : a.eval x = .agg (uvals l).toArray) (hy : a.eval y = .agg (uvals m).toArray) (h : K (a.put o.dst (.agg (uvals (l ++ m)).toArray))) :
    if Region.wanted o (yielded ops a.tmps) then ∃ v, (∀ w, Rw w0 w → o.quietAt Tryd.prog a (Rw w) w v) ∧ K (a.put o.dst v) else K (a.put o.dst undef) :=
  drift_plain _ hg (fun w _ => run_bld ho hx hy hl hm w) h
theorem quiet_build {ops : Array Oper} {C : World → Prop} {a : Act} {o : Oper} {K : Act → Prop} {x y : Operand} {l m : List Nat} (hl : l.length = 5) (hm : m.length = 5) (hg : Region.wanted o (yielded ops a.tmps) = true) (ho : o.op = .build tP #[(0, x), (1, y)])
    (hx : a.eval x = .agg (uvals l).toArray) (hy : a.eval y = .agg (uvals m).toArray) (h : K (a.put o.dst (.agg (uvals (l ++ m)).toArray))) :
    if Region.wanted o (yielded ops a.tmps) then o.quiet Tryd.prog a C K else K (a.put o.dst undef) :=
  quiet_plainG _ hg (fun w _ => run_bld ho hx hy hl hm w) h
section
variable {ops : Array Oper} {w0 : World} {K : Act → World → Prop}
theorem driftT_alloc {t : TypeId} {z : List Nat} {o : Oper} {rest : List Oper} {a : Act} {w : World} {d : Tmp} (hal : ∀ w, (Instr.alloc t true (.tuple #[])).run Tryd.prog w = .ok (.pointer (some ⟨w.heap.size, 0, none⟩)) (w.alloc (.cells (uvals z).toArray t)))
    (hw0 : Rw w0 w) (hg : o.guard = none) (ha : o.op = .alloc t) (hd : o.dst = some d) (h : ∀ c w', Rw w w' → w.heap.size ≤ c → Blk w' c t (uvals z) → wpListD Tryd.prog ops w0 K rest (a.put (some d) (.pointer (some ⟨c, 0, none⟩))) w') :
    wpListD Tryd.prog ops w0 K (o :: rest) a w := by
  refine driftT_make (G := fun v w' => ∃ c, v = .pointer (some ⟨c, 0, none⟩) ∧ w.heap.size ≤ c ∧ Blk w' c t (uvals z)) hw0 (by simp [Region.wanted, hg]) (fun w1 h1 => ?_) ?_
  · refine ⟨_, _, ?_, (Below.refl _ _).alloc (Nat.le_refl _) _, ⟨w1.heap.size, rfl, h1.size, Blk.new w1 t (uvals z)⟩⟩
    unfold execOp
    simp only [ha, Sem.run_bind, hal w1, Result.andThen_ok, Sem.run_pure]
  · rintro v w' hw ⟨c, rfl, hc, hb⟩
    rw [hd]
    exact h c w' hw hc hb
/-- a store into a block of the region's own -/
theorem driftT_store {t : TypeId} {n : Nat} {old l : List Nat} {o : Oper} {rest : List Oper} {a : Act} {w : World} {b : Nat} {x y : Operand} (hw0 : Rw w0 w) (hsz : (Tryd.prog.info? t).map (·.size) = some n) (hb : Blk w b t (uvals old)) (hold : old.length = n) (hl : l.length = n)
    (hnew : w0.heap.size ≤ b) (hg : o.guard = none) (hds : o.dst = none) (ho : o.op = .store t x y) (hx : a.eval x = .pointer (some ⟨b, 0, none⟩)) (hy : a.eval y = .agg (uvals l).toArray)
    (h : ∀ w', Rw w0 w' → Keeps (fun k => k = b) w w' → Blk w' b t (uvals l) → wpListD Tryd.prog ops w0 K rest a w') : wpListD Tryd.prog ops w0 K (o :: rest) a w := by
  refine driftT_step (fun w1 h1 Q' hQ' => ?_)
  have hb1 : Blk w1 b t (uvals old) := hb.below h1 hb.lt
  have hW1 := Rw.trans hw0 h1
  refine store_blk (n := n) (t := t) (b := b) (old := uvals old) (cs := uvals l) hb1 hsz (by rw [uvals_len, hl]) (by rw [uvals_len, hold]) (uvals_one l) hg ho hx hy ?_
  have hW2 : Rw w0 (w1.setRow b (uvals l).toArray) := below_row hW1 _ _ hnew
  refine hQ' _ _ hW2 ?_
  rw [hds]
  refine h _ hW2 ?_ (hb1.setRow _)
  have hk : Keeps (fun k => k = b) w w1 := ⟨h1.os, h1.tape, h1.output, h1.size, fun k hk _ => h1.block k hk⟩
  exact ⟨hk.os, hk.tape, hk.output, by simpa using hk.size, fun k hlt hne => (setRow_other _ _ _ _ (fun e => hne e)).trans (hk.block k hlt hne)⟩
end
end Go.Proofs.YtilccncddbgpbaaDoor
