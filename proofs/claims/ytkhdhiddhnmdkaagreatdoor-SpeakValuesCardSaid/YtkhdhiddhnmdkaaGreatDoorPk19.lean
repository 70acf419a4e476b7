/-
A region that draws its order: a head that floats, behind it two new variables that are made in whatever order, and their values.
-/
import Derived.Test.YtkhdhiddhnmdkaaGreatDoorPk15
import Derived.Test.YtkhdhiddhnmdkaaGreatDoorPk17
namespace Go.Proofs.YtkhdhiddhnmdkaaGreatDoor
open Go.RowKit
variable {md : Region.Mode} {ops : Array Oper} {w0 : World}

/-- listed with all that they wait for -/
def Closed (md : Region.Mode) (ops : Array Oper) (listed : Array Bool) : Prop :=
  ∀ j oj, ops[j]? = some oj → listed.getD j false = true → ∀ e ∈ oj.after, Region.binds md e = true → listed.getD e.on false = true
theorem Closed.set {listed : Array Bool} {k : Nat} (h : Closed md ops listed) (hk : k ∈ Region.ready md ops listed) : Closed md ops (listed.setIfInBounds k true) := by
  intro j oj hj hl e he hb
  by_cases hjk : j = k
  · subst hjk
    obtain ⟨_, ok, hok, hall⟩ := mem_ready.1 hk
    rw [hj] at hok
    cases hok
    exact getD_set_true (hall e he hb)
  · exact getD_set_true (h j oj hj (by rw [getD_set_ne false (fun e => hjk e.symm)] at hl; exact hl) e he hb)
theorem not_both {listed : Array Bool} {i : Nat} (h0 : listed.getD i true = false) (h1 : listed.getD i false = true) : False := by
  rcases Nat.lt_or_ge i listed.size with h' | h'
  · simp [h'] at h0 h1; rw [h0] at h1; cases h1
  · simp [Array.getElem?_eq_none h'] at h1
theorem wpDr_first2 {P : Program} {K : Act → World → Prop} {i : Nat} {oi : Oper} {v : Value} (hi : ops[i]? = some oi) (hsel : ∀ (j : Nat) (o : Oper) cs b, ops[j]? = some o → o.op ≠ .select cs b) :
    ∀ (f : Nat) (listed : Array Bool) (a : Act) (w : World), Closed md ops listed →
      (∀ j oj, ops[j]? = some oj → j ≠ i → listed.getD j true = false → (∀ e ∈ oj.after, Region.binds md e = true → e.on ≠ i) → (∀ e ∈ oj.after, Region.binds md e = true → ∀ ok, ops[e.on]? = some ok → ∀ e' ∈ ok.after, Region.binds md e' = true → e'.on ≠ i) → oi.apart ops oj = true) →
      i ∈ Region.ready md ops listed → YieldsD P ops w0 oi v a → Rw w0 w → wpDr P md ops w0 K f (listed.setIfInBounds i true) (a.put oi.dst v) w → wpDr P md ops w0 K (f + 1) listed a w := by
  intro f
  induction f with
  | zero =>
    intro listed a w _ _ hr hy h0 H
    refine ⟨fun h => (by rw [h] at hr; cases hr), fun j hj w1 h1 => ?_⟩
    by_cases hji : j = i
    · subst hji; exact hy.wpOp hi (h0.trans h1) fun w' hw' => ⟨(h0.trans h1).trans hw', wpDr_drift 0 _ _ _ _ H (h1.trans hw')⟩
    · have := ready_mono hj hji
      rw [H.1] at this
      cases this
  | succ f ih =>
    intro listed a w hcl hfree hr hy h0 H
    refine ⟨fun h => (by rw [h] at hr; cases hr), fun j hj w1 h1 => ?_⟩
    by_cases hji : j = i
    · subst hji; exact hy.wpOp hi (h0.trans h1) fun w' hw' => ⟨(h0.trans h1).trans hw', wpDr_drift (f + 1) _ _ _ _ H (h1.trans hw')⟩
    · have h2 := H.2 j (ready_mono hj hji) w1 h1
      obtain ⟨hjun, oj, hoj, hall⟩ := mem_ready.1 hj
      have h00 := (mem_ready.1 hr).1
      have hnot : ∀ e ∈ oj.after, Region.binds md e = true → e.on ≠ i := fun e he hb heq => not_both h00 (heq ▸ hall e he hb)
      have hnot2 : ∀ e ∈ oj.after, Region.binds md e = true → ∀ ok, ops[e.on]? = some ok → ∀ e' ∈ ok.after, Region.binds md e' = true → e'.on ≠ i :=
        fun e he hb ok hok e' he' hb' heq => not_both h00 (heq ▸ hcl e.on ok hok (hall e he hb) e' he' hb')
      have h3 := wpOp_putD hoj (hfree j oj hoj hji hjun hnot hnot2) (fun cs b => hsel i oi cs b hi) (fun cs b => hsel j oj cs b hoj) hy h2
      have hfree' : ∀ k ok, ops[k]? = some ok → k ≠ i → (listed.setIfInBounds j true).getD k true = false →
          (∀ e ∈ ok.after, Region.binds md e = true → e.on ≠ i) → (∀ e ∈ ok.after, Region.binds md e = true → ∀ o2, ops[e.on]? = some o2 → ∀ e' ∈ o2.after, Region.binds md e' = true → e'.on ≠ i) → oi.apart ops ok = true := fun k ok hk hki hun hno hno2 => by
        refine hfree k ok hk hki ?_ hno hno2
        by_cases hjk : j = k
        · subst hjk; exact hjun
        · rw [getD_set_ne true hjk] at hun; exact hun
      refine wpOp_mono (fun a' w' h4 => ⟨h4.2.1, ih (listed.setIfInBounds j true) a' w' (hcl.set hj) hfree' (ready_mono hr (Ne.symm hji)) h4.1 h4.2.1 ?_⟩) h3
      rw [Array.setIfInBounds_comm _ _ hji]
      exact h4.2.2
def free2 (md : Region.Mode) (ops : Array Oper) (listed : Array Bool) (i : Nat) : Bool :=
  match ops[i]? with
  | none => false
  | some oi => (List.range ops.size).all fun j => match ops[j]? with
    | none => true
    | some oj => j == i || listed.getD j true || oj.after.any (fun e => Region.binds md e && (e.on == i || (match ops[e.on]? with | none => false | some ok => ok.after.any fun e' => Region.binds md e' && e'.on == i))) || oi.apart ops oj
theorem free2_spec {i : Nat} {oi : Oper} {listed : Array Bool} (hi : ops[i]? = some oi) (h : free2 md ops listed i = true) (j : Nat) (oj : Oper) (hj : ops[j]? = some oj) (hne : j ≠ i) (hun : listed.getD j true = false)
    (hno : ∀ e ∈ oj.after, Region.binds md e = true → e.on ≠ i) (hno2 : ∀ e ∈ oj.after, Region.binds md e = true → ∀ ok, ops[e.on]? = some ok → ∀ e' ∈ ok.after, Region.binds md e' = true → e'.on ≠ i) : oi.apart ops oj = true := by
  unfold free2 at h
  simp only [hi, List.all_eq_true, List.mem_range] at h
  have h1 := h j (Array.getElem?_eq_some_iff.1 hj).1
  simp only [hj, Bool.or_eq_true, beq_iff_eq, hne, false_or, hun, Bool.false_eq_true] at h1
  rcases h1 with h1 | h1
  · exfalso
    obtain ⟨e, he, hb⟩ := Array.any_eq_true'.1 h1
    simp only [Bool.and_eq_true, Bool.or_eq_true, beq_iff_eq] at hb
    rcases hb.2 with h2 | h2
    · exact hno e he hb.1 h2
    · cases hok : ops[e.on]? with
      | none => rw [hok] at h2; cases h2
      | some ok =>
        rw [hok] at h2
        obtain ⟨e', he', hb'⟩ := Array.any_eq_true'.1 h2
        simp only [Bool.and_eq_true, beq_iff_eq] at hb'
        exact hno2 e he hb.1 ok hok e' he' hb'.1 hb'.2
  · exact h1
def lexHeadT (md : Region.Mode) (ops : Array Oper) (T : Array Bool → Bool) : Nat → Nat → Array Bool → Bool
  | 0, _, listed => T listed
  | f + 1, k, listed => (Region.ready md ops listed).contains k && free2 md ops listed k && lexHeadT md ops T f (k + 1) (listed.setIfInBounds k true)
theorem wpDr_headT {P : Program} {K : Act → World → Prop} {g : Nat} {T : Array Bool → Bool} (hsel : Region.noSelect ops = true) (w : World) (hw : Rw w0 w) :
    ∀ (l : List Oper) (k : Nat) (listed : Array Bool) (a : Act), Closed md ops listed → (∀ j, j < l.length → l[j]? = ops[k + j]?) → lexHeadT md ops T l.length k listed = true →
      wpQD P ops w0 (fun a' => ∀ listed, T listed = true → wpDr P md ops w0 K g listed a' w) l a → wpDr P md ops w0 K (l.length + g) listed a w
  | [], k, listed, a, _, _, hB, h => by
    simp only [List.length_nil, Nat.zero_add]
    exact h listed hB
  | o :: l, k, listed, a, hcl, hl, hB, h => by
    have h0 : ops[k]? = some o := (hl 0 (Nat.zero_lt_succ _)).symm
    simp only [List.length_cons, lexHeadT, Bool.and_eq_true] at hB
    have hr : k ∈ Region.ready md ops listed := by simpa using hB.1.1
    have hrest : ∀ j, j < l.length → l[j]? = ops[k + 1 + j]? := fun j hj => by
      have := hl (j + 1) (Nat.succ_lt_succ hj)
      rw [List.getElem?_cons_succ] at this
      rw [this, Nat.add_right_comm, Nat.add_assoc]
    rw [show (o :: l).length + g = (l.length + g) + 1 by simp only [List.length_cons]; omega]
    simp only [wpQD] at h
    by_cases hwt : Region.wanted o (yielded ops a.tmps) = true
    · simp only [hwt, if_true] at h
      obtain ⟨v, hv, hK⟩ := h
      exact wpDr_first2 h0 (Region.noSelect_spec hsel) (l.length + g) listed a w hcl (free2_spec h0 hB.1.2) hr (.inl ⟨hwt, hv⟩) hw (wpDr_headT hsel w hw l (k + 1) _ _ (hcl.set hr) hrest hB.2 hK)
    · simp only [hwt] at h
      exact wpDr_first2 h0 (Region.noSelect_spec hsel) (l.length + g) listed a w hcl (free2_spec h0 hB.1.2) hr (.inr ⟨by simpa using hwt, rfl⟩) hw (wpDr_headT hsel w hw l (k + 1) _ _ (hcl.set hr) hrest hB.2 h)
def twoB (md : Region.Mode) (ops : Array Oper) (n : Nat) (listed : Array Bool) : Bool :=
  let s := fun (l : Array Bool) i => l.setIfInBounds i true
  decide (Region.ready md ops listed = [n, n + 1]) &&
  (decide (Region.ready md ops (s listed n) = [n + 1]) && decide (Region.ready md ops (s listed (n + 1)) = [n])) &&
  (decide (Region.ready md ops (s (s listed n) (n + 1)) = [n + 2]) && decide (Region.ready md ops (s (s listed (n + 1)) n) = [n + 2])) &&
  (decide (Region.ready md ops (s (s (s listed n) (n + 1)) (n + 2)) = [n + 3]) && decide (Region.ready md ops (s (s (s listed (n + 1)) n) (n + 2)) = [n + 3])) &&
  (decide (Region.ready md ops (s (s (s (s listed n) (n + 1)) (n + 2)) (n + 3)) = []) && decide (Region.ready md ops (s (s (s (s listed (n + 1)) n) (n + 2)) (n + 3)) = []))
theorem dr_one {P : Program} {K : Act → World → Prop} {f k : Nat} {listed : Array Bool} {a : Act} {w : World} (hr : Region.ready md ops listed = [k])
    (h : ∀ w1, Rw w w1 → wpOp P ops QF k (fun a' w' => Rw w0 w' ∧ wpDr P md ops w0 K f (listed.setIfInBounds k true) a' w') a w1) : wpDr P md ops w0 K (f + 1) listed a w := by
  refine ⟨fun e => (by rw [hr] at e; cases e), fun i hi w1 h1 => ?_⟩
  rw [hr] at hi
  obtain rfl : i = k := by simpa using hi
  exact h w1 h1
theorem dr_two {P : Program} {K : Act → World → Prop} {f k m : Nat} {listed : Array Bool} {a : Act} {w : World} (hr : Region.ready md ops listed = [k, m])
    (h : ∀ w1, Rw w w1 → wpOp P ops QF k (fun a' w' => Rw w0 w' ∧ wpDr P md ops w0 K f (listed.setIfInBounds k true) a' w') a w1)
    (h2 : ∀ w1, Rw w w1 → wpOp P ops QF m (fun a' w' => Rw w0 w' ∧ wpDr P md ops w0 K f (listed.setIfInBounds m true) a' w') a w1) : wpDr P md ops w0 K (f + 1) listed a w := by
  refine ⟨fun e => (by rw [hr] at e; cases e), fun i hi w1 h1 => ?_⟩
  rw [hr] at hi
  have hi' : i = k ∨ i = m := by simpa using hi
  rcases hi' with rfl | rfl
  · exact h w1 h1
  · exact h2 w1 h1
section
variable {t : TypeId} {sz : Nat} {z : List Nat}
theorem op_alloc {i : Nat} {o : Oper} {a : Act} {w : World} {d : Tmp} {K : Act → World → Prop} (hal : ∀ w, (Instr.alloc t true (.tuple #[])).run Tryz.prog w = .ok (.pointer (some ⟨w.heap.size, 0, none⟩)) (w.alloc (.cells (uvals z).toArray t)))
    (hi : ops[i]? = some o) (hg : o.guard = none) (ha : o.op = .alloc t) (hd : o.dst = some d) (h : K (a.put (some d) (.pointer (some ⟨w.heap.size, 0, none⟩))) (w.alloc (.cells (uvals z).toArray t))) : wpOp Tryz.prog ops QF i K a w := by
  refine wpOp_of_one hi (wpList_plain hg fun K1 hK1 => ?_)
  unfold Oper.wp execOp
  simp only [ha, Sem.run_bind, hal w, Result.andThen_ok, Sem.run_pure, Oper.upon]
  refine hK1 _ _ ⟨rfl, ?_⟩
  rw [hd]
  exact h
theorem op_store {i : Nat} {o : Oper} {a : Act} {w : World} {b : Nat} {old l : List Nat} {x y : Operand} {K : Act → World → Prop} (hsz : (Tryz.prog.info? t).map (·.size) = some sz) (hb : Blk w b t (uvals old)) (hold : old.length = sz) (hl : l.length = sz)
    (hi : ops[i]? = some o) (hg : o.guard = none) (hds : o.dst = none) (ho : o.op = .store t x y) (hx : a.eval x = .pointer (some ⟨b, 0, none⟩)) (hy : a.eval y = .agg (uvals l).toArray)
    (h : K a (w.setRow b (uvals l).toArray)) : wpOp Tryz.prog ops QF i K a w := by
  refine wpOp_of_one hi (store_blk (n := sz) (t := t) (b := b) (old := uvals old) (cs := uvals l) hb hsz (by rw [uvals_len, hl]) (by rw [uvals_len, hold]) (uvals_one l) hg ho hx hy ?_)
  rw [hds]
  exact ⟨rfl, h⟩
theorem rw_row {w w1 : World} {b : Nat} {r : Array Value} (h : Rw w0 w1) (hb : w0.heap.size ≤ b) (hw : w = w1.setRow b r) : Rw w0 w := hw ▸ below_row h _ _ hb
theorem put_swap {a : Act} {d1 d2 : Tmp} (v1 v2 : Value) (h : d1 ≠ d2) : (a.put (some d2) v2).put (some d1) v1 = (a.put (some d1) v1).put (some d2) v2 := by
  show Act.mk _ _ = Act.mk _ _
  congr 1
  exact Array.setIfInBounds_comm _ _ (fun e => h e.symm)
theorem wp_two {n : Nat} {listed : Array Bool} {K : Act → World → Prop} {o1 o2 s1 s2 : Oper} {a : Act} {d1 d2 : Tmp} {y1 y2 : Operand} {l1 l2 : List Nat}
    (hal : ∀ w, (Instr.alloc t true (.tuple #[])).run Tryz.prog w = .ok (.pointer (some ⟨w.heap.size, 0, none⟩)) (w.alloc (.cells (uvals z).toArray t))) (hsz : (Tryz.prog.info? t).map (·.size) = some sz) (hz : z.length = sz)
    (i1 : ops[n]? = some o1) (i2 : ops[n + 1]? = some o2) (i3 : ops[n + 2]? = some s1) (i4 : ops[n + 3]? = some s2)
    (h1 : o1.op = .alloc t) (g1 : o1.guard = none) (e1 : o1.dst = some d1) (h2 : o2.op = .alloc t) (g2 : o2.guard = none) (e2 : o2.dst = some d2)
    (hs1 : s1.op = .store t (.tmp d1) y1) (gs1 : s1.guard = none) (es1 : s1.dst = none) (hs2 : s2.op = .store t (.tmp d2) y2) (gs2 : s2.guard = none) (es2 : s2.dst = none)
    (hd : d1 ≠ d2) (L1 : l1.length = sz) (L2 : l2.length = sz)
    (x12 : ∀ v u, ((a.put (some d1) v).put (some d2) u).eval (.tmp d1) = v) (x2 : ∀ v u, ((a.put (some d1) v).put (some d2) u).eval (.tmp d2) = u)
    (v12 : ∀ v u, ((a.put (some d1) v).put (some d2) u).eval y1 = .agg (uvals l1).toArray) (v2 : ∀ v u, ((a.put (some d1) v).put (some d2) u).eval y2 = .agg (uvals l2).toArray)
    (hT : twoB md ops n listed = true)
    (fin : ∀ c1 c2 w', c1 ≠ c2 → w0.heap.size ≤ c1 → w0.heap.size ≤ c2 → Rw w0 w' → Blk w' c1 t (uvals l1) → Blk w' c2 t (uvals l2) → K ((a.put (some d1) (.pointer (some ⟨c1, 0, none⟩))).put (some d2) (.pointer (some ⟨c2, 0, none⟩))) w') :
    wpDr Tryz.prog md ops w0 K 4 listed a w0 := by
  simp only [twoB, Bool.and_eq_true, decide_eq_true_eq] at hT
  obtain ⟨⟨⟨⟨r0, r1, r1'⟩, r2, r2'⟩, r3, r3'⟩, r4, r4'⟩ := hT
  -- the last store
  have S3 : ∀ (L : Array Bool) (c1 c2 : Nat) (w : World), Region.ready md ops L = [n + 3] → Region.ready md ops (L.setIfInBounds (n + 3) true) = [] → c1 ≠ c2 → w0.heap.size ≤ c1 → w0.heap.size ≤ c2 → Rw w0 w → Blk w c1 t (uvals l1) → Blk w c2 t (uvals z) →
      wpDr Tryz.prog md ops w0 K 1 L ((a.put (some d1) (.pointer (some ⟨c1, 0, none⟩))).put (some d2) (.pointer (some ⟨c2, 0, none⟩))) w := by
    intro L c1 c2 w hr he hne k1 k2 hw b1 b2
    refine dr_one hr fun w1 hw1 => op_store hsz (b2.below hw1 b2.lt) hz L2 i4 gs2 es2 hs2 (x2 _ _) (v2 _ _) ?_
    have hW : Rw w0 (w1.setRow c2 (uvals l2).toArray) := below_row (Rw.trans hw hw1) _ _ k2
    refine ⟨hW, he, fun w2 hw2 => ?_⟩
    have B1 := (b1.below hw1 b1.lt).farRow hne (uvals l2).toArray
    have B2 := (b2.below hw1 b2.lt).setRow (uvals l2)
    exact fin c1 c2 w2 hne k1 k2 (Rw.trans hW hw2) (B1.below hw2 B1.lt) (B2.below hw2 B2.lt)
  -- both stores
  have S2 : ∀ (L : Array Bool) (c1 c2 : Nat) (w : World), Region.ready md ops L = [n + 2] → Region.ready md ops (L.setIfInBounds (n + 2) true) = [n + 3] → Region.ready md ops ((L.setIfInBounds (n + 2) true).setIfInBounds (n + 3) true) = [] → c1 ≠ c2 → w0.heap.size ≤ c1 → w0.heap.size ≤ c2 → Rw w0 w → Blk w c1 t (uvals z) → Blk w c2 t (uvals z) →
      wpDr Tryz.prog md ops w0 K 2 L ((a.put (some d1) (.pointer (some ⟨c1, 0, none⟩))).put (some d2) (.pointer (some ⟨c2, 0, none⟩))) w := by
    intro L c1 c2 w hr hr2 he hne k1 k2 hw b1 b2
    refine dr_one hr fun w1 hw1 => op_store hsz (b1.below hw1 b1.lt) hz L1 i3 gs1 es1 hs1 (x12 _ _) (v12 _ _) ?_
    have hW : Rw w0 (w1.setRow c1 (uvals l1).toArray) := below_row (Rw.trans hw hw1) _ _ k1
    have B2 := (b2.below hw1 b2.lt).farRow (Ne.symm hne) (uvals l1).toArray
    have B1 := (b1.below hw1 b1.lt).setRow (uvals l1)
    exact ⟨hW, S3 _ c1 c2 _ hr2 he hne k1 k2 hW B1 B2⟩
  refine dr_two r0 (fun w1 hw1 => op_alloc hal i1 g1 h1 e1 ?_) (fun w1 hw1 => op_alloc hal i2 g2 h2 e2 ?_)
  · have hWa : Rw w0 (w1.alloc (.cells (uvals z).toArray t)) := Below.alloc hw1 hw1.size _
    have B1 : Blk (w1.alloc (.cells (uvals z).toArray t)) w1.heap.size t (uvals z) := Blk.new w1 t (uvals z)
    refine ⟨hWa, dr_one r1 fun w2 hw2 => op_alloc hal i2 g2 h2 e2 ?_⟩
    have hWb := Below.alloc (Rw.trans hWa hw2) (Rw.trans hWa hw2).size (.cells (uvals z).toArray t)
    have B1' := B1.below hw2 B1.lt
    exact ⟨hWb, S2 _ _ _ _ r2 r3 r4 (by have := B1'.lt; omega) hw1.size (Rw.trans hWa hw2).size hWb (B1'.alloc _) (Blk.new w2 t (uvals z))⟩
  · have hWa : Rw w0 (w1.alloc (.cells (uvals z).toArray t)) := Below.alloc hw1 hw1.size _
    have B2 : Blk (w1.alloc (.cells (uvals z).toArray t)) w1.heap.size t (uvals z) := Blk.new w1 t (uvals z)
    refine ⟨hWa, dr_one r1' fun w2 hw2 => op_alloc hal i1 g1 h1 e1 ?_⟩
    have hWb := Below.alloc (Rw.trans hWa hw2) (Rw.trans hWa hw2).size (.cells (uvals z).toArray t)
    have B2' := B2.below hw2 B2.lt
    rw [put_swap _ _ hd]
    exact ⟨hWb, S2 _ _ _ _ r2' r3' r4' (by have := B2'.lt; omega) (Rw.trans hWa hw2).size hw1.size hWb (Blk.new w2 t (uvals z)) (B2'.alloc _)⟩
end
def drift2B (md : Region.Mode) (ops : Array Oper) (n : Nat) : Bool := Region.noSelect ops && decide (ops.size = n + 4) && lexHeadT md ops (twoB md ops n) n 0 (Array.replicate ops.size false)
theorem wp_region_drift2 {P : Program} {id : Nat} {Q : Exit → Act → World → Prop} {a : Act} {w : World} {l : List Oper} (n : Nat) (hm : P.follows .mixedOrders = true) (hB : drift2B .any l.toArray n = true)
    (h : wpQD P l.toArray w.drew (fun a' => ∀ listed, twoB .any l.toArray n listed = true → wpDr P .any l.toArray w.drew (fun a'' w'' => Q .normal a'' w'') 4 listed a' w.drew) (l.take n) a) : (Code.region id l.toArray true).wp P Q a w := by
  simp only [drift2B, Bool.and_eq_true, decide_eq_true_eq] at hB
  obtain ⟨⟨hsel, hn⟩, hlex⟩ := hB
  have hn' : l.length = n + 4 := by simpa using hn
  have htl : (l.take n).length = n := by rw [List.length_take]; omega
  have G := wpDr_headT (md := .any) (g := 4) (T := twoB .any l.toArray n) hsel w.drew (Rw.refl _) (l.take n) 0 (Array.replicate l.toArray.size false) a
    (fun j oj _ hl => (by rw [getD_replicate_false] at hl; cases hl)) (fun j hj => by rw [htl] at hj; simp [hj]) (by rw [htl]; exact hlex) h
  refine wp_region_any hm ?_
  rw [htl, show n + 4 = l.toArray.size from by simp; omega] at G
  exact wpAny_of_dr (fun _ _ h => h) _ _ _ _ G
end Go.Proofs.YtkhdhiddhnmdkaaGreatDoor
