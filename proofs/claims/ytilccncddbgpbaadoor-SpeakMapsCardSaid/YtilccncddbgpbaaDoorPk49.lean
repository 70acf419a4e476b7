/-
Two new variables made in whatever order behind a floating head, their values any rows of cells.
CurveClamps, walked.
-/
import Derived.Test.YtilccncddbgpbaaDoorPk33
import Derived.Test.YtilccncddbgpbaaDoorPk37
namespace Go.Proofs.YtilccncddbgpbaaDoor
open Go.RowKit
variable {md : Region.Mode} {ops : Array Oper} {w0 : World}
section
variable {t : TypeId} {sz : Nat} {z : List Value}
theorem op_allocC {i : Nat} {o : Oper} {a : Act} {w : World} {d : Tmp} {K : Act → World → Prop} (hal : ∀ w, (Instr.alloc t true (.tuple #[])).run Tryd.prog w = .ok (.pointer (some ⟨w.heap.size, 0, none⟩)) (w.alloc (.cells z.toArray t)))
    (hi : ops[i]? = some o) (hg : o.guard = none) (ha : o.op = .alloc t) (hd : o.dst = some d) (h : K (a.put (some d) (.pointer (some ⟨w.heap.size, 0, none⟩))) (w.alloc (.cells z.toArray t))) : wpOp Tryd.prog ops QF i K a w := by
  refine wpOp_of_one hi (wpList_plain hg fun K1 hK1 => ?_)
  unfold Oper.wp execOp
  simp only [ha, Sem.run_bind, hal w, Result.andThen_ok, Sem.run_pure, Oper.upon]
  refine hK1 _ _ ⟨rfl, ?_⟩
  rw [hd]
  exact h
theorem op_storeC {i : Nat} {o : Oper} {a : Act} {w : World} {b : Nat} {old l : List Value} {x y : Operand} {K : Act → World → Prop} (hsz : (Tryd.prog.info? t).map (·.size) = some sz) (hb : Blk w b t old) (hold : old.length = sz) (hl : l.length = sz) (h1 : ∀ v ∈ l, v.oneCell' = true)
    (hi : ops[i]? = some o) (hg : o.guard = none) (hds : o.dst = none) (ho : o.op = .store t x y) (hx : a.eval x = .pointer (some ⟨b, 0, none⟩)) (hy : a.eval y = .agg l.toArray)
    (h : K a (w.setRow b l.toArray)) : wpOp Tryd.prog ops QF i K a w := by
  refine wpOp_of_one hi (store_blk (n := sz) (t := t) (b := b) (old := old) (cs := l) hb hsz hl hold h1 hg ho hx hy ?_)
  rw [hds]
  exact ⟨rfl, h⟩
theorem rw_rowC {w w1 : World} {b : Nat} {r : Array Value} (h : Rw w0 w1) (hb : w0.heap.size ≤ b) (hw : w = w1.setRow b r) : Rw w0 w := hw ▸ below_row h _ _ hb
theorem put_swapC {a : Act} {d1 d2 : Tmp} (v1 v2 : Value) (h : d1 ≠ d2) : (a.put (some d2) v2).put (some d1) v1 = (a.put (some d1) v1).put (some d2) v2 := by
  show Act.mk _ _ = Act.mk _ _
  congr 1
  exact Array.setIfInBounds_comm _ _ (fun e => h e.symm)
theorem wp_twoC {n : Nat} {listed : Array Bool} {K : Act → World → Prop} {o1 o2 s1 s2 : Oper} {a : Act} {d1 d2 : Tmp} {y1 y2 : Operand} {l1 l2 : List Value}
    (hal : ∀ w, (Instr.alloc t true (.tuple #[])).run Tryd.prog w = .ok (.pointer (some ⟨w.heap.size, 0, none⟩)) (w.alloc (.cells z.toArray t))) (hsz : (Tryd.prog.info? t).map (·.size) = some sz) (hz : z.length = sz)
    (i1 : ops[n]? = some o1) (i2 : ops[n + 1]? = some o2) (i3 : ops[n + 2]? = some s1) (i4 : ops[n + 3]? = some s2)
    (h1 : o1.op = .alloc t) (g1 : o1.guard = none) (e1 : o1.dst = some d1) (h2 : o2.op = .alloc t) (g2 : o2.guard = none) (e2 : o2.dst = some d2)
    (hs1 : s1.op = .store t (.tmp d1) y1) (gs1 : s1.guard = none) (es1 : s1.dst = none) (hs2 : s2.op = .store t (.tmp d2) y2) (gs2 : s2.guard = none) (es2 : s2.dst = none)
    (hd : d1 ≠ d2) (L1 : l1.length = sz) (L2 : l2.length = sz) (U1 : ∀ v ∈ l1, v.oneCell' = true) (U2 : ∀ v ∈ l2, v.oneCell' = true)
    (x12 : ∀ v u, ((a.put (some d1) v).put (some d2) u).eval (.tmp d1) = v) (x2 : ∀ v u, ((a.put (some d1) v).put (some d2) u).eval (.tmp d2) = u)
    (v12 : ∀ v u, ((a.put (some d1) v).put (some d2) u).eval y1 = .agg l1.toArray) (v2 : ∀ v u, ((a.put (some d1) v).put (some d2) u).eval y2 = .agg l2.toArray)
    (hT : twoB md ops n listed = true)
    (fin : ∀ c1 c2 w', c1 ≠ c2 → w0.heap.size ≤ c1 → w0.heap.size ≤ c2 → Rw w0 w' → Blk w' c1 t l1 → Blk w' c2 t l2 → K ((a.put (some d1) (.pointer (some ⟨c1, 0, none⟩))).put (some d2) (.pointer (some ⟨c2, 0, none⟩))) w') :
    wpDr Tryd.prog md ops w0 K 4 listed a w0 := by
  simp only [twoB, Bool.and_eq_true, decide_eq_true_eq] at hT
  obtain ⟨⟨⟨⟨r0, r1, r1'⟩, r2, r2'⟩, r3, r3'⟩, r4, r4'⟩ := hT
  -- the last store
  have S3 : ∀ (L : Array Bool) (c1 c2 : Nat) (w : World), Region.ready md ops L = [n + 3] → Region.ready md ops (L.setIfInBounds (n + 3) true) = [] → c1 ≠ c2 → w0.heap.size ≤ c1 → w0.heap.size ≤ c2 → Rw w0 w → Blk w c1 t l1 → Blk w c2 t z →
      wpDr Tryd.prog md ops w0 K 1 L ((a.put (some d1) (.pointer (some ⟨c1, 0, none⟩))).put (some d2) (.pointer (some ⟨c2, 0, none⟩))) w := by
    intro L c1 c2 w hr he hne k1 k2 hw b1 b2
    refine dr_one hr fun w1 hw1 => op_storeC hsz (b2.below hw1 b2.lt) hz L2 U2 i4 gs2 es2 hs2 (x2 _ _) (v2 _ _) ?_
    have hW : Rw w0 (w1.setRow c2 l2.toArray) := below_row (Rw.trans hw hw1) _ _ k2
    refine ⟨hW, he, fun w2 hw2 => ?_⟩
    have B1 := (b1.below hw1 b1.lt).farRow hne l2.toArray
    have B2 := (b2.below hw1 b2.lt).setRow l2
    exact fin c1 c2 w2 hne k1 k2 (Rw.trans hW hw2) (B1.below hw2 B1.lt) (B2.below hw2 B2.lt)
  -- both stores
  have S2 : ∀ (L : Array Bool) (c1 c2 : Nat) (w : World), Region.ready md ops L = [n + 2] → Region.ready md ops (L.setIfInBounds (n + 2) true) = [n + 3] → Region.ready md ops ((L.setIfInBounds (n + 2) true).setIfInBounds (n + 3) true) = [] → c1 ≠ c2 → w0.heap.size ≤ c1 → w0.heap.size ≤ c2 → Rw w0 w → Blk w c1 t z → Blk w c2 t z →
      wpDr Tryd.prog md ops w0 K 2 L ((a.put (some d1) (.pointer (some ⟨c1, 0, none⟩))).put (some d2) (.pointer (some ⟨c2, 0, none⟩))) w := by
    intro L c1 c2 w hr hr2 he hne k1 k2 hw b1 b2
    refine dr_one hr fun w1 hw1 => op_storeC hsz (b1.below hw1 b1.lt) hz L1 U1 i3 gs1 es1 hs1 (x12 _ _) (v12 _ _) ?_
    have hW : Rw w0 (w1.setRow c1 l1.toArray) := below_row (Rw.trans hw hw1) _ _ k1
    have B2 := (b2.below hw1 b2.lt).farRow (Ne.symm hne) l1.toArray
    have B1 := (b1.below hw1 b1.lt).setRow l1
    exact ⟨hW, S3 _ c1 c2 _ hr2 he hne k1 k2 hW B1 B2⟩
  refine dr_two r0 (fun w1 hw1 => op_allocC hal i1 g1 h1 e1 ?_) (fun w1 hw1 => op_allocC hal i2 g2 h2 e2 ?_)
  · have hWa : Rw w0 (w1.alloc (.cells z.toArray t)) := Below.alloc hw1 hw1.size _
    have B1 : Blk (w1.alloc (.cells z.toArray t)) w1.heap.size t z := Blk.new w1 t z
    refine ⟨hWa, dr_one r1 fun w2 hw2 => op_allocC hal i2 g2 h2 e2 ?_⟩
    have hWb := Below.alloc (Rw.trans hWa hw2) (Rw.trans hWa hw2).size (.cells z.toArray t)
    have B1' := B1.below hw2 B1.lt
    exact ⟨hWb, S2 _ _ _ _ r2 r3 r4 (by have := B1'.lt; omega) hw1.size (Rw.trans hWa hw2).size hWb (B1'.alloc _) (Blk.new w2 t z)⟩
  · have hWa : Rw w0 (w1.alloc (.cells z.toArray t)) := Below.alloc hw1 hw1.size _
    have B2 : Blk (w1.alloc (.cells z.toArray t)) w1.heap.size t z := Blk.new w1 t z
    refine ⟨hWa, dr_one r1' fun w2 hw2 => op_allocC hal i1 g1 h1 e1 ?_⟩
    have hWb := Below.alloc (Rw.trans hWa hw2) (Rw.trans hWa hw2).size (.cells z.toArray t)
    have B2' := B2.below hw2 B2.lt
    rw [put_swapC _ _ hd]
    exact ⟨hWb, S2 _ _ _ _ r2' r3' r4' (by have := B2'.lt; omega) (Rw.trans hWa hw2).size hw1.size hWb (Blk.new w2 t z) (B2'.alloc _)⟩
end
end Go.Proofs.YtilccncddbgpbaaDoor

namespace Go.Proofs.YtilccncddbgpbaaDoor
open Go.RowKit

theorem and7 (y : Nat) (hy : y < 256) : ∃ k : Nat, k < 8 ∧ bits .and .u8 (y : Int) 7 = (k : Int) := by
  have : ∀ y : Fin 256, (bits .and .u8 ((y.val : Nat) : Int) 7).toNat < 8 ∧ bits .and .u8 ((y.val : Nat) : Int) 7 = (((bits .and .u8 ((y.val : Nat) : Int) 7).toNat : Nat) : Int) := by decide +kernel
  exact ⟨_, this ⟨y, hy⟩⟩
theorem and192 (y : Nat) (hy : y < 256) : ∃ k : Nat, k < 4 ∧ bits .and .u8 (y : Int) 192 = ((64 * k : Nat) : Int) := by
  have : ∀ y : Fin 256, (bits .and .u8 ((y.val : Nat) : Int) 192).toNat / 64 < 4 ∧ bits .and .u8 ((y.val : Nat) : Int) 192 = ((64 * ((bits .and .u8 ((y.val : Nat) : Int) 192).toNat / 64) : Nat) : Int) := by decide +kernel
  exact ⟨_, this ⟨y, hy⟩⟩
theorem and128 (y : Nat) (hy : y < 256) : ∃ k : Nat, k < 2 ∧ bits .and .u8 (y : Int) 128 = ((128 * k : Nat) : Int) := by
  have : ∀ y : Fin 256, (bits .and .u8 ((y.val : Nat) : Int) 128).toNat / 128 < 2 ∧ bits .and .u8 ((y.val : Nat) : Int) 128 = ((128 * ((bits .and .u8 ((y.val : Nat) : Int) 128).toNat / 128) : Nat) : Int) := by decide +kernel
  exact ⟨_, this ⟨y, hy⟩⟩
theorem xor_low (x y : Nat) (hx : x < 256) (hy : y < 256) : ∃ m : Nat, m < 256 ∧ bits .xor .u8 (x : Int) (bits .and .u8 (y : Int) 7) = (m : Int) ∧ m / 8 * 8 = x / 8 * 8 := by
  obtain ⟨k, hk, e⟩ := and7 y hy
  have : ∀ (k : Fin 8) (x : Fin 256), (bits .xor .u8 ((x.val : Nat) : Int) ((k.val : Nat) : Int)).toNat < 256 ∧ bits .xor .u8 ((x.val : Nat) : Int) ((k.val : Nat) : Int) = (((bits .xor .u8 ((x.val : Nat) : Int) ((k.val : Nat) : Int)).toNat : Nat) : Int) ∧ (bits .xor .u8 ((x.val : Nat) : Int) ((k.val : Nat) : Int)).toNat / 8 * 8 = x.val / 8 * 8 := by decide +kernel
  rw [e]
  exact ⟨_, this ⟨k, hk⟩ ⟨x, hx⟩⟩
theorem xor_high (x y : Nat) (hx : x < 256) (hy : y < 256) : ∃ m : Nat, m < 256 ∧ bits .xor .u8 (x : Int) (bits .and .u8 (y : Int) 192) = (m : Int) ∧ m % 64 = x % 64 := by
  obtain ⟨k, hk, e⟩ := and192 y hy
  have : ∀ (k : Fin 4) (x : Fin 256), (bits .xor .u8 ((x.val : Nat) : Int) ((64 * k.val : Nat) : Int)).toNat < 256 ∧ bits .xor .u8 ((x.val : Nat) : Int) ((64 * k.val : Nat) : Int) = (((bits .xor .u8 ((x.val : Nat) : Int) ((64 * k.val : Nat) : Int)).toNat : Nat) : Int) ∧ (bits .xor .u8 ((x.val : Nat) : Int) ((64 * k.val : Nat) : Int)).toNat % 64 = x.val % 64 := by decide +kernel
  rw [e]
  exact ⟨_, this ⟨k, hk⟩ ⟨x, hx⟩⟩
theorem xor_top (x y : Nat) (hx : x < 256) (hy : y < 256) : ∃ m : Nat, m < 256 ∧ bits .xor .u8 (x : Int) (bits .and .u8 (y : Int) 128) = (m : Int) ∧ m % 128 = x % 128 := by
  obtain ⟨k, hk, e⟩ := and128 y hy
  have : ∀ (k : Fin 2) (x : Fin 256), (bits .xor .u8 ((x.val : Nat) : Int) ((128 * k.val : Nat) : Int)).toNat < 256 ∧ bits .xor .u8 ((x.val : Nat) : Int) ((128 * k.val : Nat) : Int) = (((bits .xor .u8 ((x.val : Nat) : Int) ((128 * k.val : Nat) : Int)).toNat : Nat) : Int) ∧ (bits .xor .u8 ((x.val : Nat) : Int) ((128 * k.val : Nat) : Int)).toNat % 128 = x.val % 128 := by decide +kernel
  rw [e]
  exact ⟨_, this ⟨k, hk⟩ ⟨x, hx⟩⟩
/-- the scalar's bits that do not count -/
theorem KN_same {l : List UInt8} (h : l.length = 32) {m0 m31 : Nat} (h0 : m0 < 256) (h31 : m31 < 256) (e0 : m0 / 8 * 8 = (l.getD 0 0).toNat / 8 * 8) (e31 : m31 % 64 = (l.getD 31 0).toNat % 64) :
    KN ((l.set 0 (UInt8.ofNat m0)).set 31 (UInt8.ofNat m31)) = KN l := by
  obtain ⟨a, m, z, rfl, hm⟩ := split32 h
  have ea : (a :: (m ++ [z])).getD 31 0 = z := by
    rw [List.getD_eq_getElem?_getD, List.getElem?_cons_succ, List.getElem?_append_right (by omega), hm]
    rfl
  rw [ea] at e31
  change m0 / 8 * 8 = a.toNat / 8 * 8 at e0
  have es : ((a :: (m ++ [z])).set 0 (UInt8.ofNat m0)).set 31 (UInt8.ofNat m31) = UInt8.ofNat m0 :: (m ++ [UInt8.ofNat m31]) := by
    rw [List.set_cons_zero, List.set_cons_succ, List.set_append_right _ _ (by omega), hm]
    rfl
  rw [es, KN_split _ _ m hm, KN_split _ _ m hm, UInt8.toNat_ofNat', UInt8.toNat_ofNat', Nat.mod_eq_of_lt (show m0 < 2 ^ 8 from h0), Nat.mod_eq_of_lt (show m31 < 2 ^ 8 from h31), e0, e31]
theorem mod_top (T z : Nat) : (T + 2 ^ 248 * z) % 2 ^ 255 = (T + 2 ^ 248 * (z % 128)) % 2 ^ 255 := by
  have e : T + 2 ^ 248 * z = T + 2 ^ 248 * (z % 128) + 2 ^ 255 * (z / 128) := by
    have h := Nat.div_add_mod z 128
    have h2 : 2 ^ 248 * z = 2 ^ 248 * (128 * (z / 128)) + 2 ^ 248 * (z % 128) := by rw [← Nat.mul_add, h]
    rw [h2, ← Nat.mul_assoc, show (2 : Nat) ^ 248 * 128 = 2 ^ 255 by decide]
    omega
  rw [e, Nat.add_mul_mod_self_left]
theorem le8_three (a z : UInt8) (m : List UInt8) (h : m.length = 30) : le8 (a :: (m ++ [z])) = (a.toNat + 256 * le8 m) + 2 ^ 248 * z.toNat := by
  rw [le8_cons, le8_append, h]
  have e : le8 [z] = z.toNat := by rw [le8_cons]; rfl
  rw [e, Nat.mul_add, ← Nat.mul_assoc, show 256 * 256 ^ 30 = 2 ^ 248 by decide, Nat.add_assoc]
theorem fpOf_split (a z : UInt8) (m : List UInt8) (h : m.length = 30) : fpOf ⟨(a :: (m ++ [z])).toArray⟩ = Fp.ofN (((a.toNat + 256 * le8 m) + 2 ^ 248 * (z.toNat % 128)) % 2 ^ 255) := by
  unfold fpOf ofB
  show Fp.ofN (le8 ((a :: (m ++ [z])).take 32) % 2 ^ 255) = _
  rw [List.take_of_length_le (by simp [h]), le8_three a z m h, mod_top]
/-- the point's bit that does not count -/
theorem fpOf_same {l : List UInt8} (h : l.length = 32) {m31 : Nat} (h31 : m31 < 256) (e31 : m31 % 128 = (l.getD 31 0).toNat % 128) : fpOf ⟨(l.set 31 (UInt8.ofNat m31)).toArray⟩ = fpOf ⟨l.toArray⟩ := by
  obtain ⟨a, m, z, rfl, hm⟩ := split32 h
  have ea : (a :: (m ++ [z])).getD 31 0 = z := by
    rw [List.getD_eq_getElem?_getD, List.getElem?_cons_succ, List.getElem?_append_right (by omega), hm]
    rfl
  rw [ea] at e31
  have es : (a :: (m ++ [z])).set 31 (UInt8.ofNat m31) = a :: (m ++ [UInt8.ofNat m31]) := by
    rw [List.set_cons_succ, List.set_append_right _ _ (by omega), hm]
    rfl
  rw [es, fpOf_split _ _ m hm, fpOf_split _ _ m hm, UInt8.toNat_ofNat', Nat.mod_eq_of_lt (show m31 < 2 ^ 8 from h31), e31]
end Go.Proofs.YtilccncddbgpbaaDoor
