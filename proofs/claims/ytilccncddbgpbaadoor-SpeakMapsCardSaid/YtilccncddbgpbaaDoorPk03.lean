/-
Bytes of a string as a slice of the call's own, and back.
A block loaded whole, stored whole, returned whole.
-/
import Derived.Laws.IdiomStrings
import Derived.Laws.BytesArg
import Derived.Laws.Rows
import Derived.Test.YtilccncddbgpbaaDoorPk02
import Derived.Test.YtilccncddbgpbaaDoorPk01
namespace Go.Proofs.YtilccncddbgpbaaDoor
open Go.RowKit

def byv (l : List UInt8) : List Value := l.map fun b => Value.int .u8 (b.toNat : Nat)
theorem byv_get (l : List UInt8) (i : Nat) (h : i < l.length) : (byv l)[i]? = some (.int .u8 ((l.getD i 0).toNat : Nat)) := by simp [byv, h]
theorem byv_len (l : List UInt8) : (byv l).length = l.length := by simp [byv]
theorem byv_one (l : List UInt8) : ∀ y ∈ byv l, y.oneCell' = true := by intro y hy; obtain ⟨d, _, rfl⟩ := List.mem_map.1 hy; rfl
theorem byv_set (l : List UInt8) (i : Nat) (d : UInt8) : (byv l).set i (.int .u8 (d.toNat : Nat)) = byv (l.set i d) := by simp [byv, List.map_set]
/-- what '[]byte(s)' gives -/
def byWorld (w : World) (e : TypeId) (s : ByteArray) : World :=
  w.drew.alloc (.cells (bytesRow s (grownCap w s.size 0 e)) e ((bytesRow s (grownCap w s.size 0 e)).size, (bytesRow s (grownCap w s.size 0 e)).size + 1))
def byVal (w : World) (e : TypeId) (s : ByteArray) : Value := .slice (some ⟨w.heap.size, 0, none⟩) s.size (grownCap w s.size 0 e)
theorem run_by {P : Program} (w : World) (src dst e : TypeId) (s : ByteArray) (hs : P.underlying src = some .string) (hd : P.underlying dst = some (.slice e)) (he : P.underlying e = some (.int .u8)) :
    (convert src dst (.string s)).run P w = .ok (byVal w e s) (byWorld w e s) := run_bytes_of_string w src dst e s hs hd he
theorem by_below (w : World) (e : TypeId) (s : ByteArray) : Below w.heap.size w (byWorld w e s) := (below_drewN (Below.refl w.heap.size w) 1).alloc (Nat.le_refl _) _
theorem by_blk (w : World) (e : TypeId) (s : ByteArray) (g : Nat) (h : vblk (byVal w e s) = some g) : g = w.heap.size := by
  unfold byVal at h
  simp only [vblk] at h
  split at h
  · cases h
  · exact (Option.some.inj h).symm
theorem by_sg (w : World) (e : TypeId) (s : ByteArray) (h : s.size ≤ maxLen) : Sg (byWorld w e s) 1 (byVal w e s) s.size (byv s.data.toList) := by
  have h1 := grownCap_ge w s.size 0 e
  have h2 := grownCap_le_maxLen w s.size 0 e h
  have hl : s.data.toList.length = s.size := Array.length_toList
  refine ⟨by rw [byv_len, hl, Nat.mul_one], _, _, rfl, h1, h2, .inr ⟨w.heap.size, 0, rfl, ?_, fun j hj => ?_, fun j hj => ?_⟩⟩
  · unfold byWorld; simp
  · have hb : (bytesRow s (grownCap w s.size 0 e)).size = grownCap w s.size 0 e := by
      unfold bytesRow; rw [Array.size_append, Array.size_map, Array.size_replicate]; show s.size + _ = _; omega
    have hj' : j < grownCap w s.size 0 e := by omega
    have hc := World.cell?_alloc_mark w.drew (bytesRow s (grownCap w s.size 0 e)) e ((bytesRow s (grownCap w s.size 0 e)).size, (bytesRow s (grownCap w s.size 0 e)).size + 1) (0 + j)
    have hf := World.frozen?_alloc_mark w.drew (bytesRow s (grownCap w s.size 0 e)) e (bytesRow s (grownCap w s.size 0 e)).size ((bytesRow s (grownCap w s.size 0 e)).size + 1) (0 + j)
    refine ⟨?_, ?_⟩
    · show ((byWorld w e s).cell? ⟨w.drew.heap.size, 0 + j, none⟩).isSome = true
      unfold byWorld
      rw [hc, Nat.zero_add, Array.getElem?_eq_getElem (by omega)]; rfl
    · show (byWorld w e s).frozen? ⟨w.drew.heap.size, 0 + j, none⟩ = false
      unfold byWorld
      rw [hf, hb]
      simp
      omega
  · have hj' : j < s.data.size := by have : s.data.size = s.size := rfl; omega
    have hc := World.cell?_alloc_mark w.drew (bytesRow s (grownCap w s.size 0 e)) e ((bytesRow s (grownCap w s.size 0 e)).size, (bytesRow s (grownCap w s.size 0 e)).size + 1) (0 + j)
    show (byWorld w e s).cell? ⟨w.drew.heap.size, 0 + j, none⟩ = _
    unfold byWorld
    rw [hc, Nat.zero_add, bytesRow_at s _ j hj', byv_get _ _ (by rw [hl]; exact hj')]
    simp
    rw [Array.getElem?_eq_getElem hj']; rfl
/-- and back -/
theorem run_str {P : Program} {w : World} {src dst e : TypeId} {v : Value} {n : Nat} {l : List UInt8} (hs : P.underlying src = some (.slice e)) (he : P.underlying e = some (.int .u8)) (hd : P.underlying dst = some .string) (h : Sg w 1 v n (byv l)) :
    (convert src dst v).run P w = .ok (.string ⟨l.toArray⟩) w := by
  have hl := h.len
  rw [byv_len, Nat.mul_one] at hl
  obtain ⟨_, ao, cap, rfl, hnc, hcm, hcase⟩ := h
  subst hl
  rcases Nat.eq_zero_or_pos l.length with h0 | h0
  · obtain rfl : l = [] := List.eq_nil_of_length_eq_zero h0
    cases ao with
    | none => exact run_convert_bytes_nil w src e hs he 0 cap dst hd
    | some a => exact run_convert_bytes_back w src dst e a cap [] hs he hd (fun j hj => by cases hj)
  · rcases hcase with h1 | ⟨g, off, rfl, hg, _, hx⟩
    · omega
    · refine run_convert_bytes_back w src dst e ⟨g, off, none⟩ cap l hs he hd (fun j hj => ?_)
      rw [Addr.add_lit, hx j (by omega), byv_get _ _ hj]
      simp [hj]
theorem lit_by (w : World) (t : TypeId) (c : UInt8) : Sg (w.alloc (.cells #[.int .u8 (c.toNat : Nat)] t)) 1 (.slice (some ⟨w.heap.size, 0, none⟩) 1 1) 1 (byv [c]) := by
  have hb : Blk (w.alloc (.cells #[.int .u8 (c.toNat : Nat)] t)) w.heap.size t (byv [c]) := Blk.new w t (byv [c])
  have h1 := hb.cell 0 _ rfl
  have h2 := hb.free 0
  refine ⟨rfl, _, 1, rfl, Nat.le_refl _, by unfold maxLen; omega, .inr ⟨w.heap.size, 0, rfl, hb.lt, fun j hj => ?_, fun j hj => ?_⟩⟩
  · obtain rfl : j = 0 := by omega
    exact ⟨by rw [Nat.add_zero, h1]; rfl, h2⟩
  · obtain rfl : j = 0 := by omega
    exact h1
theorem by_index (s : ByteArray) (i : Nat) (h : i < s.size) : s[i]'h = s.data.toList.getD i 0 := by
  have hl : i < s.data.toList.length := by rw [Array.length_toList]; exact h
  rw [List.getD_eq_getElem?_getD, List.getElem?_eq_getElem hl, Option.getD_some, Array.getElem_toList]
  rfl
theorem str_ext (s : ByteArray) : (⟨s.data.toList.toArray⟩ : ByteArray) = s := by simp
end Go.Proofs.YtilccncddbgpbaaDoor

namespace Go.Proofs.YtilccncddbgpbaaDoor
open Go.RowKit

theorem Blk.setRow {w : World} {b : Nat} {t : TypeId} {cs : List Value} (h : Blk w b t cs) (new : List Value) : Blk (w.setRow b new.toArray) b t new := setRow_heap w b _ _ t _ h
theorem Blk.farRow {w : World} {b c : Nat} {t : TypeId} {cs : List Value} (h : Blk w b t cs) (hne : b ≠ c) (new : Array Value) : Blk (w.setRow c new) b t cs := by
  show (w.setRow c new).heap[b]? = _
  rw [setRow_other _ _ _ _ hne]; exact h
theorem below_row {B : Nat} {w0 w : World} (h : Below B w0 w) (b : Nat) (v : Array Value) (hb : B ≤ b) : Below B w0 (w.setRow b v) :=
  h.trans ⟨rfl, rfl, rfl, by simp, fun k hk => setRow_other _ _ _ _ (by omega)⟩
/-- a struct or an array -/
def wide : TypeDesc → Bool
  | .struct _ | .array _ _ => true
  | _ => false
theorem load_blk {P : Program} {ops : Array Oper} {rest : List Oper} {o : Oper} {a : Act} {w : World} {Q : Exit → Act → World → Prop} {b ty n : Nat} {d : TypeDesc} {x : Operand} {cs : List Value} {t : TypeId} (hb : Blk w b t cs)
    (hu : P.underlying ty = some d) (hd : wide d = true) (hi : (P.info? ty).map (·.size) = some n) (hn : cs.length = n) (hgd : o.guard = none) (ho : o.op = .load ty x) (hx : a.eval x = .pointer (some ⟨b, 0, none⟩))
    (h : wpList P ops Q rest (a.put o.dst (.agg cs.toArray)) w) : wpList P ops Q (o :: rest) a w :=
  wpList_load_row hgd ty x ho b hx t cs.toArray (0, 0) _ hb hu (by cases d <;> first | rfl | cases hd) (by rw [hi]; simp [hn]) h
theorem store_blk {P : Program} {ops : Array Oper} {rest : List Oper} {o : Oper} {a : Act} {w : World} {Q : Exit → Act → World → Prop} {b ty n : Nat} {x y : Operand} {old cs : List Value} {t : TypeId} (hb : Blk w b t old)
    (hi : (P.info? ty).map (·.size) = some n) (hn : cs.length = n) (hl : old.length = n) (h1 : ∀ v ∈ cs, v.oneCell' = true) (hgd : o.guard = none) (ho : o.op = .store ty x y) (hx : a.eval x = .pointer (some ⟨b, 0, none⟩)) (hy : a.eval y = .agg cs.toArray)
    (h : wpList P ops Q rest (a.put o.dst undef) (w.setRow b cs.toArray)) : wpList P ops Q (o :: rest) a w :=
  wpList_store_row hgd ty x y ho b cs.toArray hx hy t old.toArray hb (by rw [hi]; simp [hn]) (by simp; omega) (by simpa using h1) h
theorem ret_blk {P : Program} {fn : Func} {R : Ending → World → Prop} {a : Act} {w : World} {p : Tmp} {ty n : Nat} {d : TypeDesc} {b : Nat} {t : TypeId} {cs : List Value} (h : fn.results = #[.cell p ty]) (hb : Blk w b t cs)
    (hu : P.underlying ty = some d) (hd : wide d = true) (hi : (P.info? ty).map (·.size) = some n) (hn : cs.length = n) (hp : a.tmps.getD p undef = .pointer (some ⟨b, 0, none⟩)) (hdf : a.defers = []) (hR : R (.returned (.agg cs.toArray)) w) : bodyPost P fn R .ret a w :=
  bodyPost_ret (results_cell_row h a.tmps w b t cs.toArray (0, 0) _ hp hb hu (by cases d <;> first | rfl | cases hd) (by rw [hi]; simp [hn])) hdf hR
theorem Blk.new2 (w : World) (o : Obj) (t : TypeId) (cs : List Value) : Blk ((w.alloc o).alloc (.cells cs.toArray t (0, 0))) (w.heap.size + 1) t cs := by
  have := Blk.new (w.alloc o) t cs
  rwa [show (w.alloc o).heap.size = w.heap.size + 1 by simp] at this
theorem Blk.new3 (w : World) (o o2 : Obj) (t : TypeId) (cs : List Value) : Blk (((w.alloc o).alloc o2).alloc (.cells cs.toArray t (0, 0))) (w.heap.size + 2) t cs := by
  have := Blk.new ((w.alloc o).alloc o2) t cs
  rwa [show ((w.alloc o).alloc o2).heap.size = w.heap.size + 2 by simp] at this
theorem below1 (w : World) (o : Obj) : Below w.heap.size w (w.alloc o) := (Below.refl _ _).alloc (Nat.le_refl _) _
theorem below2 (w : World) (o o2 : Obj) : Below w.heap.size w ((w.alloc o).alloc o2) := (below1 w o).alloc (by simp) _
theorem below3 (w : World) (o o2 o3 : Obj) : Below w.heap.size w (((w.alloc o).alloc o2).alloc o3) := (below2 w o o2).alloc (by simp; omega) _
end Go.Proofs.YtilccncddbgpbaaDoor
