/-
KeeperPlays: what holds between the two keepers; how both are made.
-/
import Derived.Test.YtaenfkekdhnakaaKRef9
import Derived.Test.YtaenfkekdhnakaaKHolds
namespace Go.Proofs.Ytaenfkekdhnakaa
open Go.RowKit

theorem sg_one {w : World} {size : Nat} {v : Value} {n : Nat} {xs : List Value} (h : Sg w size v n xs) : v.oneCell' = true := by
  obtain ⟨ao, cap, rfl⟩ := h.shape; rfl
/-- the law under way: the keeper in blocks of F, the document's in block bx, both in one state -/
structure PR (w wr : World) (F : Nat → Prop) (b bx : Nat) (s : KS) (vn vi va : Value) : Prop where
  kf : KF wr F b s
  bF : ∀ k, F k → w.heap.size < k ∧ k < wr.heap.size
  bel : Below w.heap.size w wr
  xb : Blk wr bx 31 (kcells s vn vi va)
  xw : w.heap.size < bx
  xF : ¬ F bx
  rx : RX wr s vn vi va
  off : ∀ g, vblk vn = some g ∨ vblk vi = some g ∨ vblk va = some g → ¬ F g ∧ g ≠ bx
theorem PR.below {w wr wy : World} {F : Nat → Prop} {b bx : Nat} {s : KS} {vn vi va : Value} (h : PR w wr F b bx s vn vi va) (hb : Below wr.heap.size wr wy) : PR w wy F b bx s vn vi va :=
  { h with kf := h.kf.below hb, bF := fun k hk => ⟨(h.bF k hk).1, Nat.lt_of_lt_of_le (h.bF k hk).2 hb.size⟩, bel := h.bel.trans (hb.mono h.bel.size), xb := h.xb.below hb h.xb.lt, rx := h.rx.below hb }
theorem PR.mk' {w w3 wx : World} {F : Nat → Prop} {b bq : Nat} {s : KS} {vn vi : Value} (h0 : w.heap.size < w3.heap.size ∧ Below w.heap.size w w3) (hb : Below w3.heap.size w3 wx) (kf : KF wx F b s) (nb : ∀ k, F k → w3.heap.size ≤ k ∧ k < wx.heap.size)
    (bv : Blk wx bq 31 (kcells s vn vi (.slice none 0 0))) (hq : w3.heap.size ≤ bq) (af : ¬ F bq) (rn : RX wx s vn vi (.slice none 0 0)) (rf : ∀ g, vblk vn = some g ∨ vblk vi = some g → w3.heap.size ≤ g ∧ ¬ F g) (ra : ∀ g, vblk vn = some g ∨ vblk vi = some g → g ≠ bq) :
    PR w wx F b bq s vn vi (.slice none 0 0) :=
  { kf := kf, bF := fun k hk => ⟨by have := (nb k hk).1; omega, (nb k hk).2⟩, bel := h0.2.trans (hb.mono h0.2.size), xb := bv, xw := by omega, xF := af, rx := rn
    off := fun g hg => by
      rcases hg with hg | hg | hg
      · exact ⟨(rf g (.inl hg)).2, ra g (.inl hg)⟩
      · exact ⟨(rf g (.inr hg)).2, ra g (.inr hg)⟩
      · simp [vblk] at hg }
/-- a guarded operation loads a block whole -/
theorem load_blkG {P : Program} {ops : Array Oper} {rest : List Oper} {o : Oper} {a : Act} {w : World} {Q : Exit → Act → World → Prop} {b ty n : Nat} {d : TypeDesc} {x : Operand} {cs : List Value} {t : TypeId} (hb : Blk w b t cs)
    (hu : P.underlying ty = some d) (hd : wide d = true) (hi : (P.info? ty).map (·.size) = some n) (hn : cs.length = n) (hg : Region.wanted o (yielded ops a.tmps) = true) (ho : o.op = .load ty x) (hx : a.eval x = .pointer (some ⟨b, 0, none⟩))
    (h : wpList P ops Q rest (a.put o.dst (.agg cs.toArray)) w) : wpList P ops Q (o :: rest) a w := by
  have hr : (execOp a.eval o).run P w = .ok (.value (.agg cs.toArray)) w := by
    unfold execOp
    simp only [ho, hx, Instr.loadAt, Instr.sureAddr, Sem.run_bind, Sem.run_pure, Result.andThen_ok, run_loadVar_row w b t ty cs.toArray (0, 0) d hb hu (by cases d <;> first | rfl | cases hd) (by rw [hi]; simp [hn])]
  simp only [wpList]
  rw [if_pos hg]
  refine .inl ?_
  unfold Oper.wp
  rw [hr]
  simp only [Oper.upon]
  exact h
/-- in a round: the document's next keeper lies in block yb, what is to be done is v9 -/
structure PY (w wr : World) (F : Nat → Prop) (b bx yb : Nat) (s : KS) (vn vi va : Value) (sy : KS) (ui ua v9 : Value) (acts : List (Nat × ByteArray)) : Prop where
  pr : PR w wr F b bx s vn vi va
  ybk : Blk wr yb 31 (kcells sy vn ui ua)
  yw : bx < yb
  yF : ¬ F yb
  ry : RX wr sy vn ui ua
  so : Sg wr 2 v9 acts.length (avals acts)
  offy : ∀ g, vblk ui = some g ∨ vblk ua = some g → ¬ F g ∧ g ≠ bx ∧ g ≠ yb
  offx : ∀ g, vblk vn = some g ∨ vblk vi = some g ∨ vblk va = some g → g ≠ yb
  off9 : ∀ g, vblk v9 = some g → ¬ F g ∧ g ≠ bx ∧ g ≠ yb
section
variable {w wr w2 : World} {F : Nat → Prop} {b bx yb : Nat} {s sy s' : KS} {vn vi va ui ua v9 vg vi' va' vo : Value} {acts l : List (Nat × ByteArray)}
theorem PY.below (h : PY w wr F b bx yb s vn vi va sy ui ua v9 acts) (hb : Below wr.heap.size wr w2) : PY w w2 F b bx yb s vn vi va sy ui ua v9 acts :=
  { h with pr := h.pr.below hb, ybk := h.ybk.below hb h.ybk.lt, ry := h.ry.below hb, so := h.so.below hb }
/-- a result stored into block yb, which no slice lies in -/
theorem PY.store (h : PR w wr F b bx s vn vi va) (hd : RDid wr w2 s' vn vi va vi' va' vo acts) {w3 : World} {cs : List Value} (hb3 : Below w2.heap.size w2 w3) (hy : Blk w3 yb 31 cs) (hyb : wr.heap.size ≤ yb ∨ (bx < yb ∧ yb < wr.heap.size ∧ ¬ F yb ∧ ∀ g, vblk vn = some g ∨ vblk vi = some g ∨ vblk va = some g → g ≠ yb)) (hy2 : w2.heap.size ≤ yb ∨ yb < wr.heap.size) :
    PY w (w3.setRow yb (kcells s' vn vi' va').toArray) F b bx yb s vn vi va s' vi' va' vo acts := by
  have hxl := h.xb.lt
  have hz := hd.bel.size
  have yw : bx < yb := by rcases hyb with h1 | h1 <;> omega
  have yF : ¬ F yb := fun hf => by
    rcases hyb with h1 | h1
    · have := (h.bF _ hf).2; omega
    · exact h1.2.2.1 hf
  have offx : ∀ g, vblk vn = some g ∨ vblk vi = some g ∨ vblk va = some g → g ≠ yb := fun g hg => by
    rcases hyb with h1 | h1
    · have : g < wr.heap.size := by
        rcases hg with hg | hg | hg
        · exact h.rx.names.lt hg
        · exact h.rx.wants.lt hg
        · exact h.rx.asked.lt hg
      omega
    · exact h1.2.2.2 g hg
  have kr := Keeps.row w3 yb (kcells s' vn vi' va').toArray
  have hn : ∀ v u, (∀ g, vblk u = some g → vblk v = some g ∨ wr.heap.size ≤ g) → (∀ g, vblk v = some g → ¬ F g ∧ g ≠ bx ∧ g ≠ yb) → (∀ g, vblk u = some g → g < w2.heap.size) → ∀ g, vblk u = some g → ¬ F g ∧ g ≠ bx ∧ g ≠ yb := fun v u h1 h2 h3 g hg => by
    rcases h1 g hg with h4 | h4
    · exact h2 g h4
    · have := h3 g hg
      exact ⟨fun hf => by have := (h.bF _ hf).2; omega, by omega, by omega⟩
  have offi := hn vi vi' hd.ni (fun g hg => ⟨(h.off g (.inr (.inl hg))).1, (h.off g (.inr (.inl hg))).2, offx g (.inr (.inl hg))⟩) (fun g hg => hd.rx.wants.lt hg)
  have offa := hn va va' hd.na (fun g hg => ⟨(h.off g (.inr (.inr hg))).1, (h.off g (.inr (.inr hg))).2, offx g (.inr (.inr hg))⟩) (fun g hg => hd.rx.asked.lt hg)
  have off9 := hn (.slice none 0 0) vo (fun g hg => .inr (hd.no g hg)) (fun g hg => by simp [vblk] at hg) (fun g hg => hd.out.lt hg)
  have p3 := h.below (hd.bel.trans (hb3.mono hz))
  have B4 : Below w.heap.size w (w3.setRow yb (kcells s' vn vi' va').toArray) := below_row p3.bel yb _ (by have := h.xw; omega)
  refine { pr := ?_, ybk := hy.setRow _, yw := yw, yF := yF, ry := ?_, so := ?_, offy := fun g hg => hg.elim (offi g) (offa g), offx := offx, off9 := off9 }
  · exact { kf := p3.kf.keeps kr (fun k hF e => yF (e ▸ hF)), bF := fun k hk => ⟨(p3.bF k hk).1, Nat.lt_of_lt_of_le (p3.bF k hk).2 kr.size⟩, bel := B4, xb := kr.blk p3.xb (by omega), xw := h.xw, xF := h.xF, rx := p3.rx.keeps kr (fun g hg e => offx g (.inl hg) e) (fun g hg e => offx g (.inr (.inl hg)) e) (fun g hg e => offx g (.inr (.inr hg)) e), off := h.off }
  · have r := hd.rx.below hb3
    exact r.keeps kr (fun g hg e => offx g (.inl hg) e) (fun g hg e => (offi g hg).2.2 e) (fun g hg e => (offa g hg).2.2 e)
  · exact (hd.out.below hb3).keeps kr (fun g hg e => (off9 g hg).2.2 e)
/-- behind the keeper's own step -/
structure PZ (w wr : World) (F : Nat → Prop) (b bx yb : Nat) (s' : KS) (vn ui ua v9 vg : Value) (acts : List (Nat × ByteArray)) : Prop where
  kf : KF wr F b s'
  bF : ∀ k, F k → w.heap.size < k ∧ k < wr.heap.size
  bel : Below w.heap.size w wr
  xb : ∃ cs, cs.length = 11 ∧ Blk wr bx 31 cs
  xw : w.heap.size < bx
  xF : ¬ F bx
  ybk : Blk wr yb 31 (kcells s' vn ui ua)
  ry : RX wr s' vn ui ua
  so : Sg wr 2 v9 acts.length (avals acts)
  sg : Sg wr 2 vg acts.length (avals acts)
  off : ∀ g, vblk vn = some g ∨ vblk ui = some g ∨ vblk ua = some g → ¬ F g ∧ g ≠ bx
  off9 : ∀ g, vblk v9 = some g ∨ vblk vg = some g → g ≠ bx
theorem PY.step (h : PY w wr F b bx yb s vn vi va s' ui ua v9 acts) (ha : Acts wr w2 F b s' vg acts) : PZ w w2 (fun k => F k ∨ wr.heap.size ≤ k ∧ k < w2.heap.size) b bx yb s' vn ui ua v9 vg acts := by
  have hsz := ha.keeps.size
  have hxl := h.pr.xb.lt
  have hxw := h.pr.xw
  have hbel := h.pr.bel.size
  refine { kf := ha.kp, bF := ?_, bel := ?_, xb := ⟨_, rfl, ha.keeps.blk h.pr.xb h.pr.xF⟩, xw := h.pr.xw, xF := ?_, ybk := ha.keeps.blk h.ybk h.yF, ry := ?_, so := h.so.keeps ha.keeps (fun g hg => (h.off9 g hg).1), sg := ha.out, off := ?_, off9 := ?_ }
  · rintro k (hk | ⟨hk, hk2⟩)
    · exact ⟨(h.pr.bF k hk).1, Nat.lt_of_lt_of_le (h.pr.bF k hk).2 hsz⟩
    · exact ⟨by omega, hk2⟩
  · exact h.pr.bel.trans (ha.keeps.below hbel (fun k hk hf => by have := (h.pr.bF k hf).1; omega))
  · rintro (hk | ⟨hk, _⟩)
    · exact h.pr.xF hk
    · omega
  · exact h.ry.keeps ha.keeps (fun g hg => (h.pr.off g (.inl hg)).1) (fun g hg => (h.offy g (.inl hg)).1) (fun g hg => (h.offy g (.inr hg)).1)
  · intro g hg
    have hlt : g < wr.heap.size := by
      rcases hg with hg | hg | hg
      · exact h.ry.names.lt hg
      · exact h.ry.wants.lt hg
      · exact h.ry.asked.lt hg
    have h1 : ¬ F g ∧ g ≠ bx := by
      rcases hg with hg | hg | hg
      · exact h.pr.off g (.inl hg)
      · exact ⟨(h.offy g (.inl hg)).1, (h.offy g (.inl hg)).2.1⟩
      · exact ⟨(h.offy g (.inr hg)).1, (h.offy g (.inr hg)).2.1⟩
    refine ⟨?_, h1.2⟩
    rintro (hk | ⟨hk, _⟩)
    · exact h1.1 hk
    · omega
  · rintro g (hg | hg)
    · exact (h.off9 g hg).2.1
    · have := ha.newo g hg; omega
theorem PZ.back (h : PZ w wr F b bx yb s' vn ui ua v9 vg acts) : PR w (wr.setRow bx (kcells s' vn ui ua).toArray) F b bx s' vn ui ua ∧ Sg (wr.setRow bx (kcells s' vn ui ua).toArray) 2 v9 acts.length (avals acts) ∧ Sg (wr.setRow bx (kcells s' vn ui ua).toArray) 2 vg acts.length (avals acts) := by
  obtain ⟨cs, hcl, hcs⟩ := h.xb
  have kr := Keeps.row wr bx (kcells s' vn ui ua).toArray
  refine ⟨{ kf := h.kf.keeps kr (fun k hF e => h.xF (e ▸ hF)), bF := fun k hk => ⟨(h.bF k hk).1, Nat.lt_of_lt_of_le (h.bF k hk).2 kr.size⟩, bel := below_row h.bel bx _ (Nat.le_of_lt h.xw), xb := hcs.setRow _, xw := h.xw, xF := h.xF, rx := h.ry.keeps kr (fun g hg e => (h.off g (.inl hg)).2 e) (fun g hg e => (h.off g (.inr (.inl hg))).2 e) (fun g hg e => (h.off g (.inr (.inr hg))).2 e), off := h.off }, h.so.keeps kr (fun g hg e => h.off9 g (.inl hg) e), h.sg.keeps kr (fun g hg e => h.off9 g (.inr hg) e)⟩
end
end Go.Proofs.Ytaenfkekdhnakaa
