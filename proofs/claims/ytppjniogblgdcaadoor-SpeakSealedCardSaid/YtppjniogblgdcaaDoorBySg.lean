/-
Bytes of a string as a slice of the call's own, and back.
-/
import Derived.Test.YtppjniogblgdcaaDoorSgAny
import Derived.Laws.IdiomStrings
import Derived.Laws.BytesArg
namespace Go.Proofs.YtppjniogblgdcaaDoor
open Go.RowKit

def byv (l : List UInt8) : List Value := l.map fun b => Value.int .u8 (b.toNat : Nat)
theorem byv_get (l : List UInt8) (i : Nat) (h : i < l.length) : (byv l)[i]? = some (.int .u8 ((l.getD i 0).toNat : Nat)) := by simp [byv, h]
theorem byv_len (l : List UInt8) : (byv l).length = l.length := by simp [byv]
theorem byv_one (l : List UInt8) : ∀ y ∈ byv l, y.oneCell' = true := by intro y hy; obtain ⟨d, _, rfl⟩ := List.mem_map.1 hy; rfl
theorem byv_set (l : List UInt8) (i : Nat) (d : UInt8) : (byv l).set i (.int .u8 (d.toNat : Nat)) = byv (l.set i d) := by simp [byv, List.map_set]
/-- what '[]byte(s)' gives -/
def byWorld (w : World) (e : TypeId) (s : ByteArray) : World :=
  w.drew.alloc (.cells (bytesRow s (grownCap w s.size 0 e)) e ((bytesRow s (grownCap w s.size 0 e)).size, (bytesRow s (grownCap w s.size 0 e)).size + 1))
def byVal (w : World) (e : TypeId) (s : ByteArray) : Value := .slice (some ⟨w.heap.size, 0, none⟩) s.size (grownCap w s.size 0 e)
theorem run_by {P : Program} (w : World) (src dst e : TypeId) (s : ByteArray) (hs : P.underlying src = some .string) (hd : P.underlying dst = some (.slice e)) (he : P.underlying e = some (.int .u8)) :
    (convert src dst (.string s)).run P w = .ok (byVal w e s) (byWorld w e s) := run_bytes_of_string w src dst e s hs hd he
theorem by_below (w : World) (e : TypeId) (s : ByteArray) : Below w.heap.size w (byWorld w e s) := (below_drewN (Below.refl w.heap.size w) 1).alloc (Nat.le_refl _) _
theorem by_blk (w : World) (e : TypeId) (s : ByteArray) (g : Nat) (h : vblk (byVal w e s) = some g) : g = w.heap.size := by
  unfold byVal at h
  simp only [vblk] at h
  split at h
  · cases h
  · exact (Option.some.inj h).symm
theorem by_sg (w : World) (e : TypeId) (s : ByteArray) (h : s.size ≤ maxLen) : Sg (byWorld w e s) 1 (byVal w e s) s.size (byv s.data.toList) := by
  have h1 := grownCap_ge w s.size 0 e
  have h2 := grownCap_le_maxLen w s.size 0 e h
  have hl : s.data.toList.length = s.size := Array.length_toList
  refine ⟨by rw [byv_len, hl, Nat.mul_one], _, _, rfl, h1, h2, .inr ⟨w.heap.size, 0, rfl, ?_, fun j hj => ?_, fun j hj => ?_⟩⟩
  · unfold byWorld; simp
  · have hb : (bytesRow s (grownCap w s.size 0 e)).size = grownCap w s.size 0 e := by
      unfold bytesRow; rw [Array.size_append, Array.size_map, Array.size_replicate]; show s.size + _ = _; omega
    have hj' : j < grownCap w s.size 0 e := by omega
    have hc := World.cell?_alloc_mark w.drew (bytesRow s (grownCap w s.size 0 e)) e ((bytesRow s (grownCap w s.size 0 e)).size, (bytesRow s (grownCap w s.size 0 e)).size + 1) (0 + j)
    have hf := World.frozen?_alloc_mark w.drew (bytesRow s (grownCap w s.size 0 e)) e (bytesRow s (grownCap w s.size 0 e)).size ((bytesRow s (grownCap w s.size 0 e)).size + 1) (0 + j)
    refine ⟨?_, ?_⟩
    · show ((byWorld w e s).cell? ⟨w.drew.heap.size, 0 + j, none⟩).isSome = true
      unfold byWorld
      rw [hc, Nat.zero_add, Array.getElem?_eq_getElem (by omega)]; rfl
    · show (byWorld w e s).frozen? ⟨w.drew.heap.size, 0 + j, none⟩ = false
      unfold byWorld
      rw [hf, hb]
      simp
      omega
  · have hj' : j < s.data.size := by have : s.data.size = s.size := rfl; omega
    have hc := World.cell?_alloc_mark w.drew (bytesRow s (grownCap w s.size 0 e)) e ((bytesRow s (grownCap w s.size 0 e)).size, (bytesRow s (grownCap w s.size 0 e)).size + 1) (0 + j)
    show (byWorld w e s).cell? ⟨w.drew.heap.size, 0 + j, none⟩ = _
    unfold byWorld
    rw [hc, Nat.zero_add, bytesRow_at s _ j hj', byv_get _ _ (by rw [hl]; exact hj')]
    simp
    rw [Array.getElem?_eq_getElem hj']; rfl
/-- and back -/
theorem run_str {P : Program} {w : World} {src dst e : TypeId} {v : Value} {n : Nat} {l : List UInt8} (hs : P.underlying src = some (.slice e)) (he : P.underlying e = some (.int .u8)) (hd : P.underlying dst = some .string) (h : Sg w 1 v n (byv l)) :
    (convert src dst v).run P w = .ok (.string ⟨l.toArray⟩) w := by
  have hl := h.len
  rw [byv_len, Nat.mul_one] at hl
  obtain ⟨_, ao, cap, rfl, hnc, hcm, hcase⟩ := h
  subst hl
  rcases Nat.eq_zero_or_pos l.length with h0 | h0
  · obtain rfl : l = [] := List.eq_nil_of_length_eq_zero h0
    cases ao with
    | none => exact run_convert_bytes_nil w src e hs he 0 cap dst hd
    | some a => exact run_convert_bytes_back w src dst e a cap [] hs he hd (fun j hj => by cases hj)
  · rcases hcase with h1 | ⟨g, off, rfl, hg, _, hx⟩
    · omega
    · refine run_convert_bytes_back w src dst e ⟨g, off, none⟩ cap l hs he hd (fun j hj => ?_)
      rw [Addr.add_lit, hx j (by omega), byv_get _ _ hj]
      simp [hj]
theorem lit_by (w : World) (t : TypeId) (c : UInt8) : Sg (w.alloc (.cells #[.int .u8 (c.toNat : Nat)] t)) 1 (.slice (some ⟨w.heap.size, 0, none⟩) 1 1) 1 (byv [c]) := by
  have hb : Blk (w.alloc (.cells #[.int .u8 (c.toNat : Nat)] t)) w.heap.size t (byv [c]) := Blk.new w t (byv [c])
  have h1 := hb.cell 0 _ rfl
  have h2 := hb.free 0
  refine ⟨rfl, _, 1, rfl, Nat.le_refl _, by unfold maxLen; omega, .inr ⟨w.heap.size, 0, rfl, hb.lt, fun j hj => ?_, fun j hj => ?_⟩⟩
  · obtain rfl : j = 0 := by omega
    exact ⟨by rw [Nat.add_zero, h1]; rfl, h2⟩
  · obtain rfl : j = 0 := by omega
    exact h1
theorem by_index (s : ByteArray) (i : Nat) (h : i < s.size) : s[i]'h = s.data.toList.getD i 0 := by
  have hl : i < s.data.toList.length := by rw [Array.length_toList]; exact h
  rw [List.getD_eq_getElem?_getD, List.getElem?_eq_getElem hl, Option.getD_some, Array.getElem_toList]
  rfl
theorem str_ext (s : ByteArray) : (⟨s.data.toList.toArray⟩ : ByteArray) = s := by simp
end Go.Proofs.YtppjniogblgdcaaDoor
