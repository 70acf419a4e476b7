/-
message.Parse: one field read, one element more.
A plan for a region that draws its order and makes one new variable, which nothing waits for but its store: the variable may be made at any time; the walk makes it last.
-/
import Derived.Test.YtcbkbjpdfanjpaaGreatDoorPk35
import Derived.Test.YtcbkbjpdfanjpaaGreatDoorPk05
import Derived.Test.YtcbkbjpdfanjpaaGreatDoorPk03
namespace Go.Proofs.YtcbkbjpdfanjpaaGreatDoor
open Go.RowKit
set_option maxRecDepth 100000
namespace Mg
open Spl (sv)
open Wi (IN)
/-- behind the read of a field -/
structure QL (W0 : World) (rb mb ib : Nat) (k : Int) (V : Nat → Value) (X : Nat → List Value) (T : Nat → Nat) (np : List (List S)) (l : S) (wx : World) : Prop where
  pb : PB W0.heap.size rb mb ib k V X T np wx
  inp : IN wx ib l
  bw : Below W0.heap.size W0 wx
section
variable {W0 : World} {rb mb ib : Nat} {k : Int} {u : List Nat} {s : List S} {n : List (List S)} {b : List Bool} {r : S} {V : Nat → Value} {X : Nat → List Value} {T : Nat → Nat} {np : List (List S)} {u' : List Nat} {s' : List S} {n' : List (List S)} {b' : List Bool} {wx wy w4 w5 w6 : World}
theorem QL.below {l : S} (h : QL W0 rb mb ib k V X T np l wx) (hb : Below wx.heap.size wx wy) : QL W0 rb mb ib k V X T np l wy :=
  ⟨h.pb.below hb, h.inp.below hb h.inp.lt, h.bw.trans (hb.mono h.bw.size)⟩
theorem PL.call {l : S} (h : PL W0 rb mb ib k u s n b r V X T np u' s' n' b' wx) (hi : IN wy ib l) (hk : Keeps (fun q => q = ib) wx wy) : QL W0 rb mb ib k V X T np l wy :=
  ⟨h.pb.call hk, hi, h.bw.trans (hk.below h.bw.size (fun q hq e => by have := h.pb.lo.2.1; omega))⟩
/-- names: the new ones' block has a tag of its own -/
theorem PL.calln {l : S} {x : List S} {a : Option Addr} {k' c : Nat} (h : PL W0 rb mb ib k u s n b r V X T np u' s' n' b' wx) (hi : IN wy ib l) (hk : Keeps (fun q => q = ib) wx wy) (hx : Rs (fun g => g < wx.heap.size) wy a k' c (sv x)) :
    QL W0 rb mb ib k V X (fun g => if g < wx.heap.size then T g else 5) np l wy ∧ Rs (fun g => (if g < wx.heap.size then T g else 5) ≠ 5) wy a k' c (sv x) :=
  ⟨⟨(h.pb.tag wx.heap.size (Nat.le_refl _) 5).call hk, hi, h.bw.trans (hk.below h.bw.size (fun q hq e => by have := h.pb.lo.2.1; omega))⟩, hx.mono (fun g _ e => by
    rcases Nat.lt_or_ge g wx.heap.size with h' | h'
    · exact h'
    · rw [if_neg (by omega)] at e
      exact absurd rfl e)⟩
theorem up_same {α : Type} (f : Nat → α) (p : Nat) (v : α) : up f p v p = v := if_pos rfl
theorem up_ne {α : Type} (f : Nat → α) {p q : Nat} (v : α) (h : q ≠ p) : up f p v q = f q := if_neg h
theorem PB.inn_same {B0 : Nat} (h : PB B0 rb mb ib k V X T np wx) {p : Nat} {xs : List Value} (hp : p ≠ 3) : (up X p xs 3).length = np.length ∧ ∀ (i : Nat) (y : Value) (l : List S), (up X p xs 3)[i]? = some y → np[i]? = some l → ∃ a k' c, y = Value.slice a k' c ∧ Rs (fun g => T g ≠ 5) wx a k' c (sv l) := by
  rw [up_ne X xs (Ne.symm hp)]
  exact ⟨h.inl, h.inn⟩
theorem PL.pushU {x : Nat} {u2 : List Nat} {v' : Value} (h : PL W0 rb mb ib k u s n b (117 :: r) V X T np (x :: u2) s' n' b' wx) (hf : Ms.fits r u2 s' n' b') (h4 : QL W0 rb mb ib k V X T np (Ms.enc r u2 s' n' b') w4)
    (hs : Sg w5 1 v' ((X 1).length + 1) (X 1 ++ [.int .u32 (x : Nat)])) (hv : ∀ g, vblk v' = some g → vblk (V 1) = some g ∨ w4.heap.size ≤ g) (hk : Keeps (fun q => vblk (V 1) = some q) w4 w5) (h6 : Below w5.heap.size w5 w6) :
    PL W0 rb mb ib k u s n b r (up V 1 v') (up X 1 (X 1 ++ [.int .u32 (x : Nat)])) (fun g => if g < w4.heap.size then T g else 1) np u2 s' n' b' (w6.setCell ⟨mb, 1, none⟩ v') := by
  have hp := h4.pb.push 1 (by decide) (by decide) (.int .u32 (x : Nat)) v' hs hv hk h6 (h4.pb.inn_same (by decide)).1 (h4.pb.inn_same (by decide)).2
  have hr := h4.pb.rest 1 (by decide) (by decide) v' hk h6
  refine ⟨hp, ?_, ?_, h.x3, ?_, hf, hr.1 _ h4.inp, h4.bw.trans hr.2⟩
  · obtain ⟨pu, e1, e2⟩ := h.x1
    exact ⟨pu ++ [x], by rw [up_same, e1]; simp [uv], by rw [List.append_assoc]; exact e2⟩
  · rw [up_ne _ _ (by decide)]; exact h.x2
  · rw [up_ne _ _ (by decide)]; exact h.x4
theorem PL.pushB {x : Bool} {b2 : List Bool} {v' : Value} (h : PL W0 rb mb ib k u s n b (98 :: r) V X T np u' s' n' (x :: b2) wx) (hf : Ms.fits r u' s' n' b2) (h4 : QL W0 rb mb ib k V X T np (Ms.enc r u' s' n' b2) w4)
    (hs : Sg w5 1 v' ((X 4).length + 1) (X 4 ++ [.bool x])) (hv : ∀ g, vblk v' = some g → vblk (V 4) = some g ∨ w4.heap.size ≤ g) (hk : Keeps (fun q => vblk (V 4) = some q) w4 w5) (h6 : Below w5.heap.size w5 w6) :
    PL W0 rb mb ib k u s n b r (up V 4 v') (up X 4 (X 4 ++ [.bool x])) (fun g => if g < w4.heap.size then T g else 4) np u' s' n' b2 (w6.setCell ⟨mb, 4, none⟩ v') := by
  have hp := h4.pb.push 4 (by decide) (by decide) (.bool x) v' hs hv hk h6 (h4.pb.inn_same (by decide)).1 (h4.pb.inn_same (by decide)).2
  have hr := h4.pb.rest 4 (by decide) (by decide) v' hk h6
  refine ⟨hp, ?_, ?_, h.x3, ?_, hf, hr.1 _ h4.inp, h4.bw.trans hr.2⟩
  · rw [up_ne _ _ (by decide)]; exact h.x1
  · rw [up_ne _ _ (by decide)]; exact h.x2
  · obtain ⟨pb, e1, e2⟩ := h.x4
    exact ⟨pb ++ [x], by rw [up_same, e1]; simp [bv], by rw [List.append_assoc]; exact e2⟩
theorem PL.pushS {c : UInt8} {x : S} {s2 : List S} {v' : Value} (h : PL W0 rb mb ib k u s n b (c :: r) V X T np u' (x :: s2) n' b' wx) (hf : Ms.fits r u' s2 n' b') (h4 : QL W0 rb mb ib k V X T np (Ms.enc r u' s2 n' b') w4)
    (hs : Sg w5 1 v' ((X 2).length + 1) (X 2 ++ [.string (by8 x)])) (hv : ∀ g, vblk v' = some g → vblk (V 2) = some g ∨ w4.heap.size ≤ g) (hk : Keeps (fun q => vblk (V 2) = some q) w4 w5) (h6 : Below w5.heap.size w5 w6) :
    PL W0 rb mb ib k u s n b r (up V 2 v') (up X 2 (X 2 ++ [.string (by8 x)])) (fun g => if g < w4.heap.size then T g else 2) np u' s2 n' b' (w6.setCell ⟨mb, 2, none⟩ v') := by
  have hp := h4.pb.push 2 (by decide) (by decide) (.string (by8 x)) v' hs hv hk h6 (h4.pb.inn_same (by decide)).1 (h4.pb.inn_same (by decide)).2
  have hr := h4.pb.rest 2 (by decide) (by decide) v' hk h6
  refine ⟨hp, ?_, ?_, h.x3, ?_, hf, hr.1 _ h4.inp, h4.bw.trans hr.2⟩
  · rw [up_ne _ _ (by decide)]; exact h.x1
  · obtain ⟨ps, e1, e2⟩ := h.x2
    exact ⟨ps ++ [x], by rw [up_same, e1]; simp [sv], by rw [List.append_assoc]; exact e2⟩
  · rw [up_ne _ _ (by decide)]; exact h.x4
theorem PL.pushN {x : List S} {n2 : List (List S)} {T5 : Nat → Nat} {v' : Value} {a : Option Addr} {k' c' : Nat} (h : PL W0 rb mb ib k u s n b (110 :: r) V X T np u' s' (x :: n2) b' wx) (hf : Ms.fits r u' s' n2 b') (h4 : QL W0 rb mb ib k V X T5 np (Ms.enc r u' s' n2 b') w4)
    (hx : Rs (fun g => T5 g ≠ 5) w4 a k' c' (sv x)) (hs : Sg w5 1 v' ((X 3).length + 1) (X 3 ++ [.slice a k' c'])) (hv : ∀ g, vblk v' = some g → vblk (V 3) = some g ∨ w4.heap.size ≤ g) (hk : Keeps (fun q => vblk (V 3) = some q) w4 w5) (h6 : Below w5.heap.size w5 w6) :
    PL W0 rb mb ib k u s n b r (up V 3 v') (up X 3 (X 3 ++ [.slice a k' c'])) (fun g => if g < w4.heap.size then T5 g else 3) (np ++ [x]) u' s' n2 b' (w6.setCell ⟨mb, 3, none⟩ v') := by
  have hp := h4.pb.push (n' := np ++ [x]) 3 (by decide) (by decide) (.slice a k' c') v' hs hv hk h6 (by rw [up_same, List.length_append, List.length_append, h4.pb.inl]; rfl) (fun i y l hy hl => by
    rw [up_same] at hy
    by_cases hi : i < (X 3).length
    · rw [List.getElem?_append_left hi] at hy
      rw [List.getElem?_append_left (by rw [← h4.pb.inl]; exact hi)] at hl
      exact h4.pb.inn i y l hy hl
    · rw [List.getElem?_append_right (by omega)] at hy
      rw [List.getElem?_append_right (by rw [← h4.pb.inl]; omega), ← h4.pb.inl] at hl
      have hz : i - (X 3).length = 0 := by
        have := (List.getElem?_eq_some_iff.1 hy).1
        simp at this
        omega
      rw [hz] at hy hl
      obtain rfl : Value.slice a k' c' = y := by simpa using hy
      obtain rfl : x = l := by simpa using hl
      exact ⟨a, k', c', rfl, hx⟩)
  have hr := h4.pb.rest 3 (by decide) (by decide) v' hk h6
  refine ⟨hp, ?_, ?_, by rw [List.append_assoc]; exact h.x3, ?_, hf, hr.1 _ h4.inp, h4.bw.trans hr.2⟩
  · rw [up_ne _ _ (by decide)]; exact h.x1
  · rw [up_ne _ _ (by decide)]; exact h.x2
  · rw [up_ne _ _ (by decide)]; exact h.x4
end
theorem iparts {t : TypeId} {z : Value} {k : Nat} (h : (Tryz.prog.info? t).map (fun i => (i.zero, i.size, i.bytes)) = some (some z, 1, k)) : ∃ i, Tryz.prog.info? t = some i ∧ i.zero = some z ∧ i.size = 1 ∧ i.bytes = k := by
  cases hi : Tryz.prog.info? t with
  | none => rw [hi] at h; cases h
  | some i =>
    rw [hi] at h
    simp only [Option.map_some, Option.some.injEq, Prod.mk.injEq] at h
    exact ⟨i, rfl, h.1, h.2.1, h.2.2⟩
end Mg
end Go.Proofs.YtcbkbjpdfanjpaaGreatDoor

namespace Go.Proofs.YtcbkbjpdfanjpaaGreatDoor.Pm
open Go.RowKit
variable {P : Program} {md : Region.Mode} {ops : Array Oper} {w0 : World} {F : Nat → Prop}

theorem wpOp_more {j : Nat} {ok oj : Oper} (v : Value) (hj : ops[j]? = some oj) (hap : ok.apart ops oj = true) (hsj : ∀ cs b, oj.op ≠ .select cs b) {K : Act → World → Prop} {a : Act} {w : World} (h : wpOp P ops QF j K a w) :
    wpOp P ops QF j (fun a' w' => ∃ b, a' = b.put ok.dst v ∧ K b w') (a.put ok.dst v) w := by
  obtain ⟨h1, h2, h3⟩ := Oper.apart_spec hap
  unfold wpOp at *
  simp only [hj] at *
  rw [wanted_put oj a ok.dst v h1]
  split
  · rename_i hw
    simp only [hw, if_true] at h
    rcases h with h | ⟨_, hlets⟩
    case inr => exact (not_lets hlets).elim
    refine .inl ?_
    unfold Oper.wp at *
    rw [execOp_put oj hsj a ok.dst v h1]
    generalize (execOp a.eval oj).run P w = r at *
    cases r with
    | ok n w' =>
      cases n <;> simp only [Oper.upon] at h ⊢
      case value u => exact ⟨_, by rw [← Act.put_comm a v u h2], h⟩
      case skip => exact ⟨_, by rw [← Act.put_comm a v undef h2], h⟩
      case defer d =>
        refine ⟨_, ?_, h⟩
        rw [Act.put_defers, ← Act.put_comm _ v undef h2]
      case enter f args =>
        refine Calls.mono h fun e w'' he => ?_
        cases e with
        | returned u => exact ⟨_, by rw [← Act.put_comm a v u h2], he⟩
        | panicked c => exact he.elim
        | outgrown => exact (not_lets he).elim
      case row row args => exact Rows.mono h fun u w'' he => ⟨_, by rw [← Act.put_comm a v u h2], he⟩
    | halt x w' =>
      cases x <;> simp only [Oper.upon] at h ⊢
      case panic u => exact h.elim
  · rename_i hw
    simp only [hw] at h
    exact ⟨_, by rw [← Act.put_comm a v undef h2], h⟩

def wpPlanM (P : Program) (ops : Array Oper) (F : Nat → Prop) (w0 : World) (K : Act → World → Prop) : List (Bool × Nat) → Act → World → Prop
  | [], a, w => ∀ w1, Rw w w1 → K a w1
  | (true, i) :: r, a, w => ∃ o, ops[i]? = some o ∧ if Region.wanted o (yielded ops a.tmps) then ∃ v, (∀ w, Keeps F w0 w → o.quietAt P a (Rw w) w v) ∧ wpPlanM P ops F w0 K r (a.put o.dst v) w else wpPlanM P ops F w0 K r (a.put o.dst undef) w
  | (false, i) :: r, a, w => ∃ o, ops[i]? = some o ∧ ∀ w1, Rw w w1 → wpList P ops (fun e a' w' => e = .normal ∧ Rw w1 w' ∧ wpPlanM P ops F w0 K r a' w') [o] a w1
theorem wpPlanM_drift {K : Act → World → Prop} : ∀ (pl : List (Bool × Nat)) (a : Act) (w w1 : World), wpPlanM P ops F w0 K pl a w → Rw w w1 → wpPlanM P ops F w0 K pl a w1
  | [], _, _, _, h, hw => fun w2 h2 => h w2 (hw.trans h2)
  | (true, i) :: r, a, w, w1, h, hw => by
    obtain ⟨o, ho, h⟩ := h
    refine ⟨o, ho, ?_⟩
    split
    · rename_i hwt
      rw [if_pos hwt] at h
      obtain ⟨v, hv, hK⟩ := h
      exact ⟨v, hv, wpPlanM_drift r _ _ _ hK hw⟩
    · rename_i hwt
      rw [if_neg hwt] at h
      exact wpPlanM_drift r _ _ _ h hw
  | (false, i) :: r, a, w, w1, h, hw => by
    obtain ⟨o, ho, h⟩ := h
    exact ⟨o, ho, fun w2 h2 => h w2 (hw.trans h2)⟩
/-- what stands with and without the variable -/
def freeK (ops : Array Oper) (k i : Nat) : Bool := match ops[k]?, ops[i]? with
  | some ok, some oi => ok.apart ops oi && oi.apart ops ok
  | _, _ => false
theorem freeK_spec {k i : Nat} {ok oi : Oper} (hk : ops[k]? = some ok) (hi : ops[i]? = some oi) (h : freeK ops k i = true) : ok.apart ops oi = true ∧ oi.apart ops ok = true := by
  unfold freeK at h
  rw [hk, hi] at h
  simpa using h
def lateB (md : Region.Mode) (ops : Array Oper) (k : Nat) (pl2 : List (Bool × Nat)) : List (Bool × Nat) → Array Bool → Bool
  | [], listed => decide (Region.ready md ops listed = [k]) && Pl.planB md ops pl2 (listed.setIfInBounds k true)
  | (true, i) :: r, listed => decide (i ≠ k) && decide (i ∈ Region.ready md ops listed) && Region.free md ops listed i && decide (i ∈ Region.ready md ops (listed.setIfInBounds k true)) && Region.free md ops (listed.setIfInBounds k true) i && freeK ops k i && lateB md ops k pl2 r (listed.setIfInBounds i true)
  | (false, i) :: r, listed => decide (i ≠ k) && !(Region.ready md ops listed).isEmpty && (Region.ready md ops listed).all (fun j => decide (j = i ∨ j = k)) && decide (Region.ready md ops (listed.setIfInBounds k true) = [i]) && freeK ops k i && lateB md ops k pl2 r (listed.setIfInBounds i true)
section
variable {t : TypeId} {z : List Value} {k : Nat} {ok : Oper} {d : Tmp}
def lateK (P : Program) (ops : Array Oper) (F : Nat → Prop) (w0 : World) (K : Act → World → Prop) (t : TypeId) (z : List Value) (d : Tmp) (pl2 : List (Bool × Nat)) : Act → World → Prop :=
  fun a w => ∀ c w1, Rw w w1 → w0.heap.size ≤ c → Blk w1 c t z → Pl.wpPlan P ops F w0 K pl2 (a.put (some d) (.pointer (some ⟨c, 0, none⟩))) w1
/-- it is there already -/
theorem late_done {K : Act → World → Prop} (hsel : Region.noSelect ops = true) (hk : ops[k]? = some ok) (hd : ok.dst = some d) (pl2 : List (Bool × Nat)) (c : Nat) (hc : w0.heap.size ≤ c) :
    ∀ (pl : List (Bool × Nat)) (listed : Array Bool) (a : Act) (w : World), lateB md ops k pl2 pl listed = true → Keeps F w0 w → Blk w c t z → wpPlanM P ops F w0 (lateK P ops F w0 K t z d pl2) pl a w →
      Pl.wpDr P md ops F w0 K (pl.length + pl2.length) (listed.setIfInBounds k true) (a.put (some d) (.pointer (some ⟨c, 0, none⟩))) w
  | [], listed, a, w, hB, hw, hb, h => by
    simp only [lateB, Bool.and_eq_true, decide_eq_true_eq] at hB
    rw [List.length_nil, Nat.zero_add]
    exact Pl.wpDr_plan hsel pl2 _ _ _ hB.2 hw (h w (Rw.refl _) c w (Rw.refl _) hc hb)
  | (true, i) :: r, listed, a, w, hB, hw, hb, h => by
    simp only [lateB, Bool.and_eq_true, decide_eq_true_eq] at hB
    obtain ⟨o, h0, h⟩ := h
    obtain ⟨a1, a2⟩ := freeK_spec hk h0 hB.1.2
    obtain ⟨h1, h2, h3⟩ := Oper.apart_spec a1
    rw [hd] at h1 h2
    have hsi := fun cs b => Region.noSelect_spec hsel i o cs b h0
    have ew : Region.wanted o (yielded ops (a.put (some d) (.pointer (some ⟨c, 0, none⟩))).tmps) = Region.wanted o (yielded ops a.tmps) := wanted_put o a _ _ h1
    have ee : execOp (a.put (some d) (.pointer (some ⟨c, 0, none⟩))).eval o = execOp a.eval o := execOp_put o hsi a _ _ h1
    rw [show ((true, i) :: r).length + pl2.length = (r.length + pl2.length) + 1 by simp only [List.length_cons]; omega]
    have ih : ∀ v, wpPlanM P ops F w0 (lateK P ops F w0 K t z d pl2) r (a.put o.dst v) w → Pl.wpDr P md ops F w0 K (r.length + pl2.length) ((listed.setIfInBounds k true).setIfInBounds i true) ((a.put (some d) (.pointer (some ⟨c, 0, none⟩))).put o.dst v) w := fun v hv => by
      have := late_done hsel hk hd pl2 c hc r _ _ w hB.2 hw hb hv
      rw [Array.setIfInBounds_comm _ _ hB.1.1.1.1.1.1] at this
      rwa [← Act.put_comm a (.pointer (some ⟨c, 0, none⟩)) v h2] at this
    by_cases hwt : Region.wanted o (yielded ops a.tmps) = true
    · simp only [hwt, if_true] at h
      obtain ⟨v, hv, hK⟩ := h
      exact Pl.wpDr_first h0 (Region.noSelect_spec hsel) _ _ _ w (Region.free_spec h0 hB.1.1.2) hB.1.1.1.2 (Pl.YieldsD.of_same (.inl ⟨hwt, hv⟩) ee ew) hw (ih v hK)
    · simp only [hwt] at h
      exact Pl.wpDr_first h0 (Region.noSelect_spec hsel) _ _ _ w (Region.free_spec h0 hB.1.1.2) hB.1.1.1.2 (Pl.YieldsD.of_same (.inr ⟨by simpa using hwt, rfl⟩) ee ew) hw (ih _ h)
  | (false, i) :: r, listed, a, w, hB, hw, hb, h => by
    simp only [lateB, Bool.and_eq_true, decide_eq_true_eq] at hB
    obtain ⟨o, h0, h⟩ := h
    obtain ⟨a1, a2⟩ := freeK_spec hk h0 hB.1.2
    rw [show ((false, i) :: r).length + pl2.length = (r.length + pl2.length) + 1 by simp only [List.length_cons]; omega]
    refine ⟨fun e => (by rw [hB.1.1.2] at e; cases e), fun j hj w1 h1 => ?_⟩
    rw [hB.1.1.2] at hj
    obtain rfl : j = i := by simpa using hj
    have h2 := wpOp_of_one (K := fun a' w' => Rw w1 w' ∧ wpPlanM P ops F w0 (lateK P ops F w0 K t z d pl2) r a' w') h0 (h w1 h1)
    have h3 := wpOp_more (.pointer (some ⟨c, 0, none⟩)) h0 a1 (fun cs b => Region.noSelect_spec hsel j o cs b h0) h2
    rw [hd] at h3
    refine wpOp_mono (fun a' w' h' => ?_) h3
    obtain ⟨b, rfl, hr, hp⟩ := h'
    have hw' : Keeps F w0 w' := (hw.rw h1).rw hr
    refine ⟨hw', ?_⟩
    rw [Array.setIfInBounds_comm _ _ (Ne.symm hB.1.1.1.1.1)]
    exact late_done hsel hk hd pl2 c hc r _ b w' hB.2 hw' ((hb.below h1 hb.lt).below hr (hb.below h1 hb.lt).lt) hp
theorem op_make {i : Nat} {o : Oper} {a : Act} {w : World} {K : Act → World → Prop} (hal : ∀ w, (Instr.alloc t true (.tuple #[])).run P w = .ok (.pointer (some ⟨w.heap.size, 0, none⟩)) (w.alloc (.cells z.toArray t)))
    (hi : ops[i]? = some o) (hg : o.guard = none) (ha : o.op = .alloc t) (hd : o.dst = some d) (h : K (a.put (some d) (.pointer (some ⟨w.heap.size, 0, none⟩))) (w.alloc (.cells z.toArray t))) : wpOp P ops QF i K a w := by
  refine wpOp_of_one hi (wpList_plain hg fun K1 hK1 => ?_)
  unfold Oper.wp execOp
  simp only [ha, Sem.run_bind, hal w, Result.andThen_ok, Sem.run_pure, Oper.upon]
  refine hK1 _ _ ⟨rfl, ?_⟩
  rw [hd]
  exact h
theorem late_all {K : Act → World → Prop} (hal : ∀ w, (Instr.alloc t true (.tuple #[])).run P w = .ok (.pointer (some ⟨w.heap.size, 0, none⟩)) (w.alloc (.cells z.toArray t))) (hsel : Region.noSelect ops = true) (hk : ops[k]? = some ok) (hg : ok.guard = none) (ha : ok.op = .alloc t) (hd : ok.dst = some d) (pl2 : List (Bool × Nat)) :
    ∀ (pl : List (Bool × Nat)) (listed : Array Bool) (a : Act) (w : World), lateB md ops k pl2 pl listed = true → Rw w0 w → wpPlanM P ops F w0 (lateK P ops F w0 K t z d pl2) pl a w →
      Pl.wpDr P md ops F w0 K (pl.length + pl2.length + 1) listed a w
  | [], listed, a, w, hB, hw, h => by
    have hB0 := hB
    simp only [lateB, Bool.and_eq_true, decide_eq_true_eq] at hB
    refine ⟨fun e => (by rw [hB.1] at e; cases e), fun j hj w1 h1 => ?_⟩
    rw [hB.1] at hj
    obtain rfl : j = k := by simpa using hj
    have hw1 := Rw.trans hw h1
    have hw2 : Rw w1 (w1.alloc (.cells z.toArray t)) := below1 w1 _
    refine op_make hal hk hg ha hd ⟨(Keeps.of_below (F := F) (Rw.trans hw1 hw2)), ?_⟩
    exact late_done hsel hk hd pl2 _ hw1.size [] listed a _ hB0 (Keeps.of_below (Rw.trans hw1 hw2)) (Blk.new w1 t z) (wpPlanM_drift [] a w _ h (Rw.trans h1 hw2))
  | (true, i) :: r, listed, a, w, hB, hw, h => by
    simp only [lateB, Bool.and_eq_true, decide_eq_true_eq] at hB
    obtain ⟨o, h0, h⟩ := h
    rw [show ((true, i) :: r).length + pl2.length + 1 = (r.length + pl2.length + 1) + 1 by simp only [List.length_cons]; omega]
    by_cases hwt : Region.wanted o (yielded ops a.tmps) = true
    · simp only [hwt, if_true] at h
      obtain ⟨v, hv, hK⟩ := h
      exact Pl.wpDr_first h0 (Region.noSelect_spec hsel) _ listed a w (Region.free_spec h0 hB.1.1.1.1.2) hB.1.1.1.1.1.2 (.inl ⟨hwt, hv⟩) (Keeps.of_below hw) (late_all hal hsel hk hg ha hd pl2 r _ _ w hB.2 hw hK)
    · simp only [hwt] at h
      exact Pl.wpDr_first h0 (Region.noSelect_spec hsel) _ listed a w (Region.free_spec h0 hB.1.1.1.1.2) hB.1.1.1.1.1.2 (.inr ⟨by simpa using hwt, rfl⟩) (Keeps.of_below hw) (late_all hal hsel hk hg ha hd pl2 r _ _ w hB.2 hw h)
  | (false, i) :: r, listed, a, w, hB, hw, h => by
    have hB0 := hB
    have hp0 := h
    simp only [lateB, Bool.and_eq_true, decide_eq_true_eq, Bool.not_eq_true', List.all_eq_true] at hB
    obtain ⟨o, h0, h⟩ := h
    refine ⟨fun e => (by rw [e] at hB; exact absurd hB.1.1.1.1.2 (by simp)), fun j hj w1 h1 => ?_⟩
    have hw1 := Rw.trans hw h1
    rcases hB.1.1.1.2 j hj with rfl | rfl
    · have h2 := wpOp_of_one (K := fun a' w' => Rw w1 w' ∧ wpPlanM P ops F w0 (lateK P ops F w0 K t z d pl2) r a' w') h0 (h w1 h1)
      refine wpOp_mono (fun a' w' h' => ⟨Keeps.of_below (Rw.trans hw1 h'.1), ?_⟩) h2
      have := late_all hal hsel hk hg ha hd pl2 r _ a' w' hB.2 (Rw.trans hw1 h'.1) h'.2
      rw [show ((false, j) :: r).length + pl2.length = r.length + pl2.length + 1 by simp only [List.length_cons]; omega]
      exact this
    · have hw2 : Rw w1 (w1.alloc (.cells z.toArray t)) := below1 w1 _
      refine op_make hal hk hg ha hd ⟨(Keeps.of_below (F := F) (Rw.trans hw1 hw2)), ?_⟩
      exact late_done hsel hk hd pl2 _ hw1.size ((false, i) :: r) listed a _ hB0 (Keeps.of_below (Rw.trans hw1 hw2)) (Blk.new w1 t z) (wpPlanM_drift _ a w _ hp0 (Rw.trans h1 hw2))
end
def regionB (ops : Array Oper) (k : Nat) (pl pl2 : List (Bool × Nat)) : Bool := Region.noSelect ops && decide (pl.length + pl2.length + 1 = ops.size) && lateB .any ops k pl2 pl (Array.replicate ops.size false)
theorem wp_region_late {id : Nat} {Q : Exit → Act → World → Prop} {a : Act} {w : World} {l : List Oper} (F : Nat → Prop) (k : Nat) (pl pl2 : List (Bool × Nat)) {t : TypeId} {z : List Value} {ok : Oper} {d : Tmp}
    (hal : ∀ w, (Instr.alloc t true (.tuple #[])).run P w = .ok (.pointer (some ⟨w.heap.size, 0, none⟩)) (w.alloc (.cells z.toArray t))) (hk : l.toArray[k]? = some ok) (hg : ok.guard = none) (ha : ok.op = .alloc t) (hd : ok.dst = some d)
    (hm : P.follows .mixedOrders = true) (hB : regionB l.toArray k pl pl2 = true)
    (h : wpPlanM P l.toArray F w.drew (lateK P l.toArray F w.drew (fun a' w' => Q .normal a' w') t z d pl2) pl a w.drew) : (Code.region id l.toArray true).wp P Q a w := by
  simp only [regionB, Bool.and_eq_true, decide_eq_true_eq] at hB
  refine wp_region_any hm ?_
  have G := late_all hal hB.1.1 hk hg ha hd pl2 pl (Array.replicate l.toArray.size false) a w.drew hB.2 (Rw.refl _) h
  rw [hB.1.2] at G
  exact Pl.wpAny_of_dr (fun _ _ h => h) _ _ _ _ G
theorem nil {K : Act → World → Prop} {a : Act} {w : World} (h : ∀ w1, Rw w w1 → K a w1) : wpPlanM P ops F w0 K [] a w := h
theorem head {K' : Act → World → Prop} {i : Nat} {r : List (Bool × Nat)} {a : Act} {w : World} {o : Oper} (hi : ops[i]? = some o)
    (h : ∀ K : Act → Prop, (∀ a, wpPlanM P ops F w0 K' r a w → K a) → if Region.wanted o (yielded ops a.tmps) then ∃ v, (∀ w, Keeps F w0 w → o.quietAt P a (Rw w) w v) ∧ K (a.put o.dst v) else K (a.put o.dst undef)) : wpPlanM P ops F w0 K' ((true, i) :: r) a w :=
  ⟨o, hi, h _ (fun _ h => h)⟩
theorem sole {K' : Act → World → Prop} {i : Nat} {r : List (Bool × Nat)} {a : Act} {w : World} {o : Oper} (hi : ops[i]? = some o)
    (h : ∀ w1, Rw w w1 → ∀ Q' : Exit → Act → World → Prop, (∀ a' w', Rw w1 w' → wpPlanM P ops F w0 K' r a' w' → Q' .normal a' w') → wpList P ops Q' [o] a w1) : wpPlanM P ops F w0 K' ((false, i) :: r) a w :=
  ⟨o, hi, fun w1 h1 => h w1 h1 _ fun _ _ h2 h3 => ⟨rfl, h2, h3⟩⟩
end Go.Proofs.YtcbkbjpdfanjpaaGreatDoor.Pm
