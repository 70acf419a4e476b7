/-
Bytes of a string as a slice of the call's own, and back.
A block loaded whole, stored whole, returned whole.
A region that draws its order: a head that is quiet in a class of worlds (it reads, or calls what makes memory of its own), and a tail in one forced order that may write.
After the library's two theories, Derived/StillTail.lean (the tail) and Derived/Deep/Quiet.lean (the class): joined.
-/
import Derived.Laws.IdiomStrings
import Derived.Laws.BytesArg
import Derived.Laws.Rows
import Derived.BigQuiet
import Derived.StillTail
import Derived.Deep.Quiet
import Derived.Test.YtcbkbjpdfanjpaaGreatDoorPk02
import Derived.Test.YtcbkbjpdfanjpaaGreatDoorPk01
namespace Go.Proofs.YtcbkbjpdfanjpaaGreatDoor
open Go.RowKit

def byv (l : List UInt8) : List Value := l.map fun b => Value.int .u8 (b.toNat : Nat)
theorem byv_get (l : List UInt8) (i : Nat) (h : i < l.length) : (byv l)[i]? = some (.int .u8 ((l.getD i 0).toNat : Nat)) := by simp [byv, h]
theorem byv_len (l : List UInt8) : (byv l).length = l.length := by simp [byv]
theorem byv_one (l : List UInt8) : ∀ y ∈ byv l, y.oneCell' = true := by intro y hy; obtain ⟨d, _, rfl⟩ := List.mem_map.1 hy; rfl
theorem byv_set (l : List UInt8) (i : Nat) (d : UInt8) : (byv l).set i (.int .u8 (d.toNat : Nat)) = byv (l.set i d) := by simp [byv, List.map_set]
/-- what '[]byte(s)' gives -/
def byWorld (w : World) (e : TypeId) (s : ByteArray) : World :=
  w.drew.alloc (.cells (bytesRow s (grownCap w s.size 0 e)) e ((bytesRow s (grownCap w s.size 0 e)).size, (bytesRow s (grownCap w s.size 0 e)).size + 1))
def byVal (w : World) (e : TypeId) (s : ByteArray) : Value := .slice (some ⟨w.heap.size, 0, none⟩) s.size (grownCap w s.size 0 e)
theorem run_by {P : Program} (w : World) (src dst e : TypeId) (s : ByteArray) (hs : P.underlying src = some .string) (hd : P.underlying dst = some (.slice e)) (he : P.underlying e = some (.int .u8)) :
    (convert src dst (.string s)).run P w = .ok (byVal w e s) (byWorld w e s) := run_bytes_of_string w src dst e s hs hd he
theorem by_below (w : World) (e : TypeId) (s : ByteArray) : Below w.heap.size w (byWorld w e s) := (below_drewN (Below.refl w.heap.size w) 1).alloc (Nat.le_refl _) _
theorem by_blk (w : World) (e : TypeId) (s : ByteArray) (g : Nat) (h : vblk (byVal w e s) = some g) : g = w.heap.size := by
  unfold byVal at h
  simp only [vblk] at h
  split at h
  · cases h
  · exact (Option.some.inj h).symm
theorem by_sg (w : World) (e : TypeId) (s : ByteArray) (h : s.size ≤ maxLen) : Sg (byWorld w e s) 1 (byVal w e s) s.size (byv s.data.toList) := by
  have h1 := grownCap_ge w s.size 0 e
  have h2 := grownCap_le_maxLen w s.size 0 e h
  have hl : s.data.toList.length = s.size := Array.length_toList
  refine ⟨by rw [byv_len, hl, Nat.mul_one], _, _, rfl, h1, h2, .inr ⟨w.heap.size, 0, rfl, ?_, fun j hj => ?_, fun j hj => ?_⟩⟩
  · unfold byWorld; simp
  · have hb : (bytesRow s (grownCap w s.size 0 e)).size = grownCap w s.size 0 e := by
      unfold bytesRow; rw [Array.size_append, Array.size_map, Array.size_replicate]; show s.size + _ = _; omega
    have hj' : j < grownCap w s.size 0 e := by omega
    have hc := World.cell?_alloc_mark w.drew (bytesRow s (grownCap w s.size 0 e)) e ((bytesRow s (grownCap w s.size 0 e)).size, (bytesRow s (grownCap w s.size 0 e)).size + 1) (0 + j)
    have hf := World.frozen?_alloc_mark w.drew (bytesRow s (grownCap w s.size 0 e)) e (bytesRow s (grownCap w s.size 0 e)).size ((bytesRow s (grownCap w s.size 0 e)).size + 1) (0 + j)
    refine ⟨?_, ?_⟩
    · show ((byWorld w e s).cell? ⟨w.drew.heap.size, 0 + j, none⟩).isSome = true
      unfold byWorld
      rw [hc, Nat.zero_add, Array.getElem?_eq_getElem (by omega)]; rfl
    · show (byWorld w e s).frozen? ⟨w.drew.heap.size, 0 + j, none⟩ = false
      unfold byWorld
      rw [hf, hb]
      simp
      omega
  · have hj' : j < s.data.size := by have : s.data.size = s.size := rfl; omega
    have hc := World.cell?_alloc_mark w.drew (bytesRow s (grownCap w s.size 0 e)) e ((bytesRow s (grownCap w s.size 0 e)).size, (bytesRow s (grownCap w s.size 0 e)).size + 1) (0 + j)
    show (byWorld w e s).cell? ⟨w.drew.heap.size, 0 + j, none⟩ = _
    unfold byWorld
    rw [hc, Nat.zero_add, bytesRow_at s _ j hj', byv_get _ _ (by rw [hl]; exact hj')]
    simp
    rw [Array.getElem?_eq_getElem hj']; rfl
/-- and back -/
theorem run_str {P : Program} {w : World} {src dst e : TypeId} {v : Value} {n : Nat} {l : List UInt8} (hs : P.underlying src = some (.slice e)) (he : P.underlying e = some (.int .u8)) (hd : P.underlying dst = some .string) (h : Sg w 1 v n (byv l)) :
    (convert src dst v).run P w = .ok (.string ⟨l.toArray⟩) w := by
  have hl := h.len
  rw [byv_len, Nat.mul_one] at hl
  obtain ⟨_, ao, cap, rfl, hnc, hcm, hcase⟩ := h
  subst hl
  rcases Nat.eq_zero_or_pos l.length with h0 | h0
  · obtain rfl : l = [] := List.eq_nil_of_length_eq_zero h0
    cases ao with
    | none => exact run_convert_bytes_nil w src e hs he 0 cap dst hd
    | some a => exact run_convert_bytes_back w src dst e a cap [] hs he hd (fun j hj => by cases hj)
  · rcases hcase with h1 | ⟨g, off, rfl, hg, _, hx⟩
    · omega
    · refine run_convert_bytes_back w src dst e ⟨g, off, none⟩ cap l hs he hd (fun j hj => ?_)
      rw [Addr.add_lit, hx j (by omega), byv_get _ _ hj]
      simp [hj]
theorem lit_by (w : World) (t : TypeId) (c : UInt8) : Sg (w.alloc (.cells #[.int .u8 (c.toNat : Nat)] t)) 1 (.slice (some ⟨w.heap.size, 0, none⟩) 1 1) 1 (byv [c]) := by
  have hb : Blk (w.alloc (.cells #[.int .u8 (c.toNat : Nat)] t)) w.heap.size t (byv [c]) := Blk.new w t (byv [c])
  have h1 := hb.cell 0 _ rfl
  have h2 := hb.free 0
  refine ⟨rfl, _, 1, rfl, Nat.le_refl _, by unfold maxLen; omega, .inr ⟨w.heap.size, 0, rfl, hb.lt, fun j hj => ?_, fun j hj => ?_⟩⟩
  · obtain rfl : j = 0 := by omega
    exact ⟨by rw [Nat.add_zero, h1]; rfl, h2⟩
  · obtain rfl : j = 0 := by omega
    exact h1
theorem by_index (s : ByteArray) (i : Nat) (h : i < s.size) : s[i]'h = s.data.toList.getD i 0 := by
  have hl : i < s.data.toList.length := by rw [Array.length_toList]; exact h
  rw [List.getD_eq_getElem?_getD, List.getElem?_eq_getElem hl, Option.getD_some, Array.getElem_toList]
  rfl
theorem str_ext (s : ByteArray) : (⟨s.data.toList.toArray⟩ : ByteArray) = s := by simp
end Go.Proofs.YtcbkbjpdfanjpaaGreatDoor

namespace Go.Proofs.YtcbkbjpdfanjpaaGreatDoor
open Go.RowKit

theorem Blk.setRow {w : World} {b : Nat} {t : TypeId} {cs : List Value} (h : Blk w b t cs) (new : List Value) : Blk (w.setRow b new.toArray) b t new := setRow_heap w b _ _ t _ h
theorem Blk.farRow {w : World} {b c : Nat} {t : TypeId} {cs : List Value} (h : Blk w b t cs) (hne : b ≠ c) (new : Array Value) : Blk (w.setRow c new) b t cs := by
  show (w.setRow c new).heap[b]? = _
  rw [setRow_other _ _ _ _ hne]; exact h
theorem below_row {B : Nat} {w0 w : World} (h : Below B w0 w) (b : Nat) (v : Array Value) (hb : B ≤ b) : Below B w0 (w.setRow b v) :=
  h.trans ⟨rfl, rfl, rfl, by simp, fun k hk => setRow_other _ _ _ _ (by omega)⟩
/-- a struct or an array -/
def wide : TypeDesc → Bool
  | .struct _ | .array _ _ => true
  | _ => false
theorem load_blk {P : Program} {ops : Array Oper} {rest : List Oper} {o : Oper} {a : Act} {w : World} {Q : Exit → Act → World → Prop} {b ty n : Nat} {d : TypeDesc} {x : Operand} {cs : List Value} {t : TypeId} (hb : Blk w b t cs)
    (hu : P.underlying ty = some d) (hd : wide d = true) (hi : (P.info? ty).map (·.size) = some n) (hn : cs.length = n) (hgd : o.guard = none) (ho : o.op = .load ty x) (hx : a.eval x = .pointer (some ⟨b, 0, none⟩))
    (h : wpList P ops Q rest (a.put o.dst (.agg cs.toArray)) w) : wpList P ops Q (o :: rest) a w :=
  wpList_load_row hgd ty x ho b hx t cs.toArray (0, 0) _ hb hu (by cases d <;> first | rfl | cases hd) (by rw [hi]; simp [hn]) h
theorem store_blk {P : Program} {ops : Array Oper} {rest : List Oper} {o : Oper} {a : Act} {w : World} {Q : Exit → Act → World → Prop} {b ty n : Nat} {x y : Operand} {old cs : List Value} {t : TypeId} (hb : Blk w b t old)
    (hi : (P.info? ty).map (·.size) = some n) (hn : cs.length = n) (hl : old.length = n) (h1 : ∀ v ∈ cs, v.oneCell' = true) (hgd : o.guard = none) (ho : o.op = .store ty x y) (hx : a.eval x = .pointer (some ⟨b, 0, none⟩)) (hy : a.eval y = .agg cs.toArray)
    (h : wpList P ops Q rest (a.put o.dst undef) (w.setRow b cs.toArray)) : wpList P ops Q (o :: rest) a w :=
  wpList_store_row hgd ty x y ho b cs.toArray hx hy t old.toArray hb (by rw [hi]; simp [hn]) (by simp; omega) (by simpa using h1) h
theorem ret_blk {P : Program} {fn : Func} {R : Ending → World → Prop} {a : Act} {w : World} {p : Tmp} {ty n : Nat} {d : TypeDesc} {b : Nat} {t : TypeId} {cs : List Value} (h : fn.results = #[.cell p ty]) (hb : Blk w b t cs)
    (hu : P.underlying ty = some d) (hd : wide d = true) (hi : (P.info? ty).map (·.size) = some n) (hn : cs.length = n) (hp : a.tmps.getD p undef = .pointer (some ⟨b, 0, none⟩)) (hdf : a.defers = []) (hR : R (.returned (.agg cs.toArray)) w) : bodyPost P fn R .ret a w :=
  bodyPost_ret (results_cell_row h a.tmps w b t cs.toArray (0, 0) _ hp hb hu (by cases d <;> first | rfl | cases hd) (by rw [hi]; simp [hn])) hdf hR
theorem Blk.new2 (w : World) (o : Obj) (t : TypeId) (cs : List Value) : Blk ((w.alloc o).alloc (.cells cs.toArray t (0, 0))) (w.heap.size + 1) t cs := by
  have := Blk.new (w.alloc o) t cs
  rwa [show (w.alloc o).heap.size = w.heap.size + 1 by simp] at this
theorem Blk.new3 (w : World) (o o2 : Obj) (t : TypeId) (cs : List Value) : Blk (((w.alloc o).alloc o2).alloc (.cells cs.toArray t (0, 0))) (w.heap.size + 2) t cs := by
  have := Blk.new ((w.alloc o).alloc o2) t cs
  rwa [show ((w.alloc o).alloc o2).heap.size = w.heap.size + 2 by simp] at this
theorem below1 (w : World) (o : Obj) : Below w.heap.size w (w.alloc o) := (Below.refl _ _).alloc (Nat.le_refl _) _
theorem below2 (w : World) (o o2 : Obj) : Below w.heap.size w ((w.alloc o).alloc o2) := (below1 w o).alloc (by simp) _
theorem below3 (w : World) (o o2 o3 : Obj) : Below w.heap.size w (((w.alloc o).alloc o2).alloc o3) := (below2 w o o2).alloc (by simp; omega) _
end Go.Proofs.YtcbkbjpdfanjpaaGreatDoor

namespace Go.Proofs.YtcbkbjpdfanjpaaGreatDoor
open Go.RowKit
variable {P : Program} {md : Region.Mode} {ops : Array Oper} {C : World → Prop}

/-- n steps of the head, whatever is picked -/
def headQ (P : Program) (md : Region.Mode) (ops : Array Oper) (C : World → Prop) (n : Nat) (L : Array Bool → Act → Prop) : Nat → Array Bool → Act → Prop
  | 0, done, a => L done a
  | f + 1, done, a => Region.ready md ops done ≠ [] ∧ ∀ i ∈ Region.ready md ops done, i < n ∧ qOp P ops C i (headQ P md ops C n L f (done.setIfInBounds i true)) a

theorem headQ_any {n g : Nat} {L : Array Bool → Act → Prop} {Q : Exit → Act → World → Prop} (hL : ∀ done a w, C w → L done a → wpAny P md ops Q g done a w) :
    ∀ (f : Nat) (done : Array Bool) (a : Act) (w : World), C w → headQ P md ops C n L f done a → wpAny P md ops Q (f + g) done a w
  | 0, _, _, _, hw, h => by rw [Nat.zero_add]; exact hL _ _ _ hw h
  | f + 1, _, _, _, hw, h => by
    rw [Nat.add_right_comm]
    exact ⟨fun e => absurd e h.1, fun i hi => wpOp_of_qOp hw (fun a' w' hw' hh => headQ_any hL f _ a' w' hw' hh) (h.2 i hi).2⟩

theorem head_only {n i j : Nat} {done : Array Bool} (hs : Region.sinkB md ops n = true) (hc : Region.chainB md ops n = true) (hn : n < ops.size) (inv : HeadInv md ops n done) (hin : i < n)
    (hi : i ∈ Region.ready md ops done) (hj : j ∈ Region.ready md ops done) : j < n := by
  rcases Nat.lt_or_ge j n with h | h
  · exact h
  · exact absurd hj (tail_waits hs hc hn inv _ i rfl hin (mem_ready.1 hi).1 j h)

/-- what is ready, quiet and apart from all that is left may be taken first -/
theorem headQ_first {n i : Nat} {oi : Oper} {v : Value} {L : Array Bool → Act → Prop} (hi : ops[i]? = some oi) (hsel : ∀ (j : Nat) (o : Oper) cs b, ops[j]? = some o → o.op ≠ .select cs b)
    (hs : Region.sinkB md ops n = true) (hc : Region.chainB md ops n = true) (hn : n < ops.size) (hin : i < n) (hend : ∀ done a, L done a → ∀ j ∈ Region.ready md ops done, n ≤ j) :
    ∀ (f : Nat) (done : Array Bool) (a : Act), HeadInv md ops n done →
      (∀ j oj, ops[j]? = some oj → j ≠ i → done.getD j true = false → (∀ e ∈ oj.after, Region.binds md e = true → e.on ≠ i) → oi.apart ops oj = true) →
      i ∈ Region.ready md ops done → YieldsIn P ops C oi v a → headQ P md ops C n L f (done.setIfInBounds i true) (a.put oi.dst v) → headQ P md ops C n L (f + 1) done a
  | f, done, a, inv, hfree, hr, hy, H => by
    refine ⟨fun h => (by rw [h] at hr; cases hr), fun j hj => ⟨head_only hs hc hn inv hin hr hj, ?_⟩⟩
    rcases Decidable.em (j = i) with rfl | hji
    · exact hy.qOp hi H
    · cases f with
      | zero =>
        have h1 := hend _ _ H j (ready_mono hj hji)
        have h2 := head_only hs hc hn inv hin hr hj
        omega
      | succ f =>
        obtain ⟨hjun, oj, hoj, hall⟩ := mem_ready.1 hj
        have hnot : ∀ e ∈ oj.after, Region.binds md e = true → e.on ≠ i := fun e he hb heq => by
          have h1 := hall e he hb
          rw [heq, getD_both (mem_ready.1 hr).1] at h1
          cases h1
        refine qOp_mono (fun a' h3 => headQ_first hi hsel hs hc hn hin hend f _ a' (inv.set hj (head_only hs hc hn inv hin hr hj)) (fun k ok hk hki hun hno => hfree k ok hk hki ?_ hno) (ready_mono hr (Ne.symm hji)) h3.1 ?_)
          (qOp_put hoj (hfree j oj hoj hji hjun hnot) (fun cs b => hsel i oi cs b hi) (fun cs b => hsel j oj cs b hoj) hy (H.2 j (ready_mono hj hji)).2)
        · rcases Decidable.em (j = k) with rfl | hjk
          · exact hjun
          · rwa [getD_set_ne true hjk] at hun
        · rw [Array.setIfInBounds_comm _ _ hji]
          exact h3.2

theorem headQ_lex {n g : Nat} {Lq : Act → Prop} (hsel : Region.noSelect ops = true) (hs : Region.sinkB md ops n = true) (hc : Region.chainB md ops n = true) (hn : n < ops.size) :
    ∀ (l : List Oper) (k : Nat) (done : Array Bool) (a : Act), (∀ j, j < l.length → l[j]? = ops[k + j]?) → k + l.length = n → HeadInv md ops n done → Region.lexHead md ops g l.length k done = true → wpQuiet P ops C Lq l a →
      headQ P md ops C n (fun d a' => Region.seqB md ops g n d = true ∧ Lq a') l.length done a
  | [], k, _, _, _, hk, _, hB, h => by
    obtain rfl : k = n := by simpa using hk
    exact ⟨hB, h⟩
  | o :: l, k, done, a, hl, hk, inv, hB, h => by
    have h0 : ops[k]? = some o := (hl 0 (Nat.zero_lt_succ _)).symm
    simp only [List.length_cons, Region.lexHead, Bool.and_eq_true] at hB
    simp only [List.length_cons] at hk
    have hr : k ∈ Region.ready md ops done := by simpa using hB.1.1
    obtain ⟨v, hy, hK⟩ := yieldsIn_of_qOp (C := C) (K := wpQuiet P ops C Lq l) h0 (by unfold qOp; simp only [h0]; exact h)
    refine headQ_first h0 (Region.noSelect_spec hsel) hs hc hn (by omega) (fun d a' hL => seqB_ready hL.1) l.length done a inv (Region.free_spec h0 hB.1.2) hr hy ?_
    refine headQ_lex hsel hs hc hn l (k + 1) _ _ (fun j hj => ?_) (by omega) (inv.set hr (by omega)) hB.2 hK
    have := hl (j + 1) (Nat.succ_lt_succ hj)
    rw [List.getElem?_cons_succ] at this
    rw [this, Nat.add_right_comm, Nat.add_assoc]

theorem wp_region_quiet_tail {id : Nat} {Q : Exit → Act → World → Prop} {a : Act} {w : World} {l : List Oper} (n : Nat) (hm : P.follows .mixedOrders = true) (hB : Region.lexTailB .any l.toArray n = true) (hC : C w.drew)
    (h : wpQuiet P l.toArray C (fun a' => ∀ w', C w' → wpList P l.toArray Q (l.drop n) a' w') (l.take n) a) : (Code.region id l.toArray true).wp P Q a w := by
  simp only [Region.lexTailB, Bool.and_eq_true, decide_eq_true_eq] at hB
  obtain ⟨⟨⟨⟨hsel, hn⟩, hs⟩, hc⟩, hlex⟩ := hB
  have hn' : n < l.length := by simpa using hn
  have htl : (l.take n).length = n := by rw [List.length_take]; omega
  have H := headQ_lex (md := .any) (C := C) (g := l.toArray.size - n) hsel hs hc hn (l.take n) 0 (Array.replicate l.toArray.size false) a
    (fun j hj => by rw [htl] at hj; simp [hj]) (by omega)
    ⟨by simp, fun j oj _ hl => (by rw [getD_replicate_false] at hl; cases hl), fun t _ ht => getD_in (by simpa using ht) (getD_replicate_false _ _)⟩ (by rw [htl]; exact hlex) h
  have G := headQ_any (Q := Q) (g := l.toArray.size - n) (fun d a' w' hw' hL => by
    have e : l.toArray.size - n = (l.drop n).length := by simp
    rw [e] at hL ⊢
    exact wpAny_of_seq (l.drop n) n d a' w' (fun j => by simp) hL.1 (hL.2 w' hw')) (l.take n).length _ a w.drew hC H
  refine wp_region_any hm ?_
  rw [htl, show n + (l.toArray.size - n) = l.toArray.size from by omega] at G
  exact G
/-! ### regions that read, and call what makes memory of its own -/
theorem quiet_plain {P : Program} {ops : Array Oper} {C : World → Prop} {Q : Act → Prop} {a : Act} {o : Oper} {rest : List Oper} (v : Value) (hg : o.guard = none) (hv : ∀ w, C w → (execOp a.eval o).run P w = .ok (.value v) w)
    (h : wpQuiet P ops C Q rest (a.put o.dst v)) : wpQuiet P ops C Q (o :: rest) a :=
  wpQuiet_step fun K hK => by
    simp only [Region.wanted, hg, if_true]
    exact ⟨v, fun w hw => by unfold Oper.quietAt; rw [hv w hw]; exact ⟨rfl, rfl⟩, hK _ h⟩
theorem quiet_call {P : Program} {ops : Array Oper} {C : World → Prop} {Q : Act → Prop} {a : Act} {o : Oper} {rest : List Oper} (v : Value) (f : FuncId) (args : Array Value) (hg : o.guard = none) (hv : ∀ w, (execOp a.eval o).run P w = .ok (.enter f args) w)
    (hc : ∀ w, C w → Calls P f args w fun e w' => e = .returned v ∧ C w') (h : wpQuiet P ops C Q rest (a.put o.dst v)) : wpQuiet P ops C Q (o :: rest) a :=
  wpQuiet_step fun K hK => by
    simp only [Region.wanted, hg, if_true]
    exact ⟨v, fun w hw => by unfold Oper.quietAt; rw [hv w]; exact ⟨rfl, hc w hw⟩, hK _ h⟩
theorem quiet_load {P : Program} {ops : Array Oper} {C : World → Prop} {Q : Act → Prop} {a : Act} {o : Oper} {rest : List Oper} {b ty n : Nat} {e : TypeId} {x : Operand} {cs : List Value} {t : TypeId} (hb : ∀ w, C w → Blk w b t cs)
    (hu : P.underlying ty = some (.array n e)) (hi : (P.info? ty).map (·.size) = some cs.length) (hg : o.guard = none) (ho : o.op = .load ty x) (hx : a.eval x = .pointer (some ⟨b, 0, none⟩))
    (h : wpQuiet P ops C Q rest (a.put o.dst (.agg cs.toArray))) : wpQuiet P ops C Q (o :: rest) a :=
  quiet_plain (.agg cs.toArray) hg (fun w hw => by
    unfold execOp
    simp only [ho, hx, Instr.loadAt, Instr.sureAddr, Sem.run_bind, Sem.run_pure, Result.andThen_ok, run_loadVar_row w b t ty cs.toArray (0, 0) _ (hb w hw) hu rfl (by rw [hi]; simp)]) h

/-! .. and with what follows kept apart, so that the frame may be written out before the walk goes on: 'wpQuiet_step' first -/
theorem quiet_plainK {P : Program} {ops : Array Oper} {C : World → Prop} {a : Act} {o : Oper} {K : Act → Prop} (v : Value) (hg : o.guard = none) (hv : ∀ w, C w → (execOp a.eval o).run P w = .ok (.value v) w) (h : K (a.put o.dst v)) :
    if Region.wanted o (yielded ops a.tmps) then o.quiet P a C K else K (a.put o.dst undef) := by
  simp only [Region.wanted, hg, if_true]
  exact ⟨v, fun w hw => by unfold Oper.quietAt; rw [hv w hw]; exact ⟨rfl, rfl⟩, h⟩
theorem quiet_callK {P : Program} {ops : Array Oper} {C : World → Prop} {a : Act} {o : Oper} {K : Act → Prop} (v : Value) (f : FuncId) (args : Array Value) (hg : o.guard = none) (hv : ∀ w, (execOp a.eval o).run P w = .ok (.enter f args) w)
    (hc : ∀ w, C w → Calls P f args w fun e w' => e = .returned v ∧ C w') (h : K (a.put o.dst v)) : if Region.wanted o (yielded ops a.tmps) then o.quiet P a C K else K (a.put o.dst undef) := by
  simp only [Region.wanted, hg, if_true]
  exact ⟨v, fun w hw => by unfold Oper.quietAt; rw [hv w]; exact ⟨rfl, hc w hw⟩, h⟩
theorem quiet_loadK {P : Program} {ops : Array Oper} {C : World → Prop} {a : Act} {o : Oper} {K : Act → Prop} {b ty n : Nat} {e : TypeId} {x : Operand} {cs : List Value} {t : TypeId} (hb : ∀ w, C w → Blk w b t cs)
    (hu : P.underlying ty = some (.array n e)) (hi : (P.info? ty).map (·.size) = some cs.length) (hg : o.guard = none) (ho : o.op = .load ty x) (hx : a.eval x = .pointer (some ⟨b, 0, none⟩))
    (h : K (a.put o.dst (.agg cs.toArray))) : if Region.wanted o (yielded ops a.tmps) then o.quiet P a C K else K (a.put o.dst undef) :=
  quiet_plainK (.agg cs.toArray) hg (fun w hw => by
    unfold execOp
    simp only [ho, hx, Instr.loadAt, Instr.sureAddr, Sem.run_bind, Sem.run_pure, Result.andThen_ok, run_loadVar_row w b t ty cs.toArray (0, 0) _ (hb w hw) hu rfl (by rw [hi]; simp)]) h
theorem region_quiet {P : Program} {C : World → Prop} {id : Nat} {Q : Exit → Act → World → Prop} {a : Act} {w : World} {l : List Oper} (hm : P.follows .mixedOrders = true) (hB : Region.lexB .any l.toArray = true) (hC : C w.drew)
    (h : wpQuiet P l.toArray C (fun a' => ∀ w', C w' → Q .normal a' w') l a) : (Code.region id l.toArray true).wp P Q a w := wp_region_quiet hm hB hC (by simpa using h)
/-! guarded operations of a quiet walk -/
theorem quiet_plainG {P : Program} {ops : Array Oper} {C : World → Prop} {a : Act} {o : Oper} {K : Act → Prop} (v : Value) (hg : Region.wanted o (yielded ops a.tmps) = true) (hv : ∀ w, C w → (execOp a.eval o).run P w = .ok (.value v) w) (h : K (a.put o.dst v)) :
    if Region.wanted o (yielded ops a.tmps) then o.quiet P a C K else K (a.put o.dst undef) := by
  rw [if_pos hg]
  exact ⟨v, fun w hw => by unfold Oper.quietAt; rw [hv w hw]; exact ⟨rfl, rfl⟩, h⟩
theorem quiet_callG {P : Program} {ops : Array Oper} {C : World → Prop} {a : Act} {o : Oper} {K : Act → Prop} (v : Value) (f : FuncId) (args : Array Value) (hg : Region.wanted o (yielded ops a.tmps) = true) (hv : ∀ w, (execOp a.eval o).run P w = .ok (.enter f args) w)
    (hc : ∀ w, C w → Calls P f args w fun e w' => e = .returned v ∧ C w') (h : K (a.put o.dst v)) : if Region.wanted o (yielded ops a.tmps) then o.quiet P a C K else K (a.put o.dst undef) := by
  rw [if_pos hg]
  exact ⟨v, fun w hw => by unfold Oper.quietAt; rw [hv w]; exact ⟨rfl, hc w hw⟩, h⟩
theorem quiet_loadG {P : Program} {ops : Array Oper} {C : World → Prop} {a : Act} {o : Oper} {K : Act → Prop} {b ty n : Nat} {e : TypeId} {x : Operand} {cs : List Value} {t : TypeId} (hb : ∀ w, C w → Blk w b t cs)
    (hu : P.underlying ty = some (.array n e)) (hi : (P.info? ty).map (·.size) = some cs.length) (hg : Region.wanted o (yielded ops a.tmps) = true) (ho : o.op = .load ty x) (hx : a.eval x = .pointer (some ⟨b, 0, none⟩))
    (h : K (a.put o.dst (.agg cs.toArray))) : if Region.wanted o (yielded ops a.tmps) then o.quiet P a C K else K (a.put o.dst undef) :=
  quiet_plainG (.agg cs.toArray) hg (fun w hw => by
    unfold execOp
    simp only [ho, hx, Instr.loadAt, Instr.sureAddr, Sem.run_bind, Sem.run_pure, Result.andThen_ok, run_loadVar_row w b t ty cs.toArray (0, 0) _ (hb w hw) hu rfl (by rw [hi]; simp)]) h

/-- a block loaded whole, whatever its type -/
theorem quiet_loadB {P : Program} {ops : Array Oper} {C : World → Prop} {a : Act} {o : Oper} {K : Act → Prop} {b ty n : Nat} {d : TypeDesc} {x : Operand} {cs : List Value} {t : TypeId} (hb : ∀ w, C w → Blk w b t cs)
    (hu : P.underlying ty = some d) (hd : wide d = true) (hi : (P.info? ty).map (·.size) = some n) (hn : cs.length = n) (hg : Region.wanted o (yielded ops a.tmps) = true) (ho : o.op = .load ty x) (hx : a.eval x = .pointer (some ⟨b, 0, none⟩))
    (h : K (a.put o.dst (.agg cs.toArray))) : if Region.wanted o (yielded ops a.tmps) then o.quiet P a C K else K (a.put o.dst undef) :=
  quiet_plainG (.agg cs.toArray) hg (fun w hw => by
    unfold execOp
    simp only [ho, hx, Instr.loadAt, Instr.sureAddr, Sem.run_bind, Sem.run_pure, Result.andThen_ok, run_loadVar_row w b t ty cs.toArray (0, 0) d (hb w hw) hu (by cases d <;> first | rfl | cases hd) (by rw [hi]; simp [hn])]) h
end Go.Proofs.YtcbkbjpdfanjpaaGreatDoor
