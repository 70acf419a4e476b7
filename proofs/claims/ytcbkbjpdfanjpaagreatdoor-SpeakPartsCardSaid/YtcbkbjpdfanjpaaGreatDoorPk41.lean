/-
The law's Few: short fields; the message that is being cut.
-/
import Derived.Test.YtcbkbjpdfanjpaaGreatDoorPk36
import Derived.Test.YtcbkbjpdfanjpaaGreatDoorPk40
namespace Go.Proofs.YtcbkbjpdfanjpaaGreatDoor
open Go.RowKit
set_option maxRecDepth 100000
namespace Fe
open Spl (sv)
open Mg (FV NN uv bv tR zM)
abbrev S := List UInt8
def fS (s : List S) : List S := (s.take 9).map (·.take 100)
def fL (l : List S) : List S := (l.take 6).map (·.take 70)
def fN (n : List (List S)) : List (List S) := (n.take 14).map fL
theorem few_short (u : List Nat) (s : List S) (n : List (List S)) (b : List Bool) : Rf.Short (u.take 9) (fS s) (fN n) (b.take 9) := by
  refine ⟨by rw [List.length_take]; omega, ⟨by unfold fS; rw [List.length_map, List.length_take]; omega, fun x hx => ?_⟩, ⟨by unfold fN; rw [List.length_map, List.length_take]; omega, fun l hl => ?_⟩, by rw [List.length_take]; omega⟩
  · obtain ⟨y, _, rfl⟩ := List.mem_map.1 hx
    rw [List.length_take]; omega
  · obtain ⟨y, _, rfl⟩ := List.mem_map.1 hl
    refine ⟨by unfold fL; rw [List.length_map, List.length_take]; omega, fun x hx => ?_⟩
    obtain ⟨z, _, rfl⟩ := List.mem_map.1 hx
    rw [List.length_take]; omega
theorem fS_next (s : List S) (i : Nat) (x : S) (h : s[i]? = some x) (hi : i < 9) : fS (s.take (i + 1)) = fS (s.take i) ++ [x.take 100] := by
  unfold fS
  rw [List.take_take, List.take_take, Nat.min_eq_right (by omega), Nat.min_eq_right (by omega), List.take_add_one, h, List.map_append]
  rfl
theorem fL_next (s : List S) (i : Nat) (x : S) (h : s[i]? = some x) (hi : i < 6) : fL (s.take (i + 1)) = fL (s.take i) ++ [x.take 70] := by
  unfold fL
  rw [List.take_take, List.take_take, Nat.min_eq_right (by omega), Nat.min_eq_right (by omega), List.take_add_one, h, List.map_append]
  rfl
theorem fN_next (n : List (List S)) (i : Nat) (x : List S) (h : n[i]? = some x) (hi : i < 14) : fN (n.take (i + 1)) = fN (n.take i) ++ [fL x] := by
  unfold fN
  rw [List.take_take, List.take_take, Nat.min_eq_right (by omega), Nat.min_eq_right (by omega), List.take_add_one, h, List.map_append]
  rfl
theorem fS_all (s : List S) (i : Nat) (h : i = min s.length 9) : fS (s.take i) = fS s := by
  unfold fS
  rw [List.take_take]
  congr 1
  rw [h]
  rcases Nat.le_total s.length 9 with h' | h'
  · rw [Nat.min_eq_left h', List.take_of_length_le h', Nat.min_eq_right h', List.take_of_length_le (Nat.le_refl _)]
  · rw [Nat.min_eq_right h', Nat.min_self]
theorem fL_all (s : List S) (i : Nat) (h : i = min s.length 6) : fL (s.take i) = fL s := by
  unfold fL
  rw [List.take_take]
  congr 1
  rw [h]
  rcases Nat.le_total s.length 6 with h' | h'
  · rw [Nat.min_eq_left h', List.take_of_length_le h', Nat.min_eq_right h', List.take_of_length_le (Nat.le_refl _)]
  · rw [Nat.min_eq_right h', Nat.min_self]
theorem fN_all (s : List (List S)) (i : Nat) (h : i = min s.length 14) : fN (s.take i) = fN s := by
  unfold fN
  rw [List.take_take]
  congr 1
  rw [h]
  rcases Nat.le_total s.length 14 with h' | h'
  · rw [Nat.min_eq_left h', List.take_of_length_le h', Nat.min_eq_right h', List.take_of_length_le (Nat.le_refl _)]
  · rw [Nat.min_eq_right h', Nat.min_self]
theorem cut_ok (x : S) (m : Nat) (hm : m ≤ 1000) (w : World) : Calls Tryz.prog 21 #[.string (by8 x), .int .i64 (m : Nat)] w fun e w' => e = .returned (.string (by8 (x.take m))) ∧ w = w' := by
  have hsz := by8_size x
  have E := by8_take x m
  by_cases h : x.length ≤ m
  · have hT : x.take m = x := List.take_of_length_le h
    rw [hT]
    have hd : ((m : Int) < (x.length : Nat)) = False := eq_false (by omega)
    clear E hT
    go_enter Tryz.func21, Tryz.ntmps21
    go_wp2_with fail
    go_ret
    exact ⟨rfl, rfl⟩
  · have hd : ((m : Int) < (x.length : Nat)) = True := eq_true (by omega)
    have hms : m ≤ (by8 x).size := by omega
    clear h
    go_enter Tryz.func21, Tryz.ntmps21
    go_wp2_with fail
    go_ret
    exact ⟨rfl, rfl⟩
/-- the message that is being cut: its own slices of texts and of names, each in blocks of its own -/
structure FQ (B0 ob rb mb : Nat) (cs0 : List Value) (k : Int) (v1 v4 VS VN : Value) (XS XN : List Value) (T : Nat → Nat) (np : List (List S)) (w : World) : Prop where
  blk : Blk w ob tR [.int .i64 k, v1, VS, VN, v4]
  src : Blk w mb tR cs0
  res : Blk w rb tR zM
  t0 : T ob = 0 ∧ T rb = 0 ∧ T mb = 0 ∧ ob ≠ rb ∧ ob ≠ mb
  lo : B0 ≤ ob
  s : Sg w 1 VS XS.length XS ∧ ∀ g, vblk VS = some g → T g = 2 ∧ B0 ≤ g
  n : Sg w 1 VN XN.length XN ∧ ∀ g, vblk VN = some g → T g = 3 ∧ B0 ≤ g
  inl : XN.length = np.length
  inn : ∀ (i : Nat) (x : Value) (l : List S), XN[i]? = some x → np[i]? = some l → ∃ a k' c, x = Value.slice a k' c ∧ Rs (fun g => T g ≠ 5 + i ∨ g < B0) w a k' c (sv l)
section
variable {B0 ob rb mb : Nat} {cs0 : List Value} {k : Int} {v1 v4 VS VN : Value} {XS XN : List Value} {T : Nat → Nat} {np : List (List S)} {w w' w5 w6 : World}
/-- blocks of a tag that none of these has may turn -/
theorem FQ.keeps {G : Nat → Prop} {t : Nat} (h : FQ B0 ob rb mb cs0 k v1 v4 VS VN XS XN T np w) (hk : Keeps G w w') (hG : ∀ g, g < w.heap.size → G g → T g = t) (ht : t = 1 ∨ 5 + np.length ≤ t) : FQ B0 ob rb mb cs0 k v1 v4 VS VN XS XN T np w' := by
  have z : ∀ g, g < w.heap.size → T g = 0 → ¬ G g := fun g hg h0 e => by have := hG g hg e; omega
  refine ⟨hk.blk h.blk (z _ h.blk.lt h.t0.1), hk.blk h.src (z _ h.src.lt h.t0.2.2.1), hk.blk h.res (z _ h.res.lt h.t0.2.1), h.t0, h.lo, ⟨h.s.1.keeps hk (fun g hg e => ?_), h.s.2⟩, ⟨h.n.1.keeps hk (fun g hg e => ?_), h.n.2⟩, h.inl, fun i x l hx hl => ?_⟩
  · have := hG g (h.s.1.lt hg) e
    have := (h.s.2 g hg).1
    omega
  · have := hG g (h.n.1.lt hg) e
    have := (h.n.2 g hg).1
    omega
  · obtain ⟨a, k', c, e, hr⟩ := h.inn i x l hx hl
    refine ⟨a, k', c, e, hr.keeps hk (fun g hg e => ?_)⟩
    have h1 := hG g hg e
    have h2 := (List.getElem?_eq_some_iff.1 hl).1
    exact .inl (by omega)
theorem FQ.below (h : FQ B0 ob rb mb cs0 k v1 v4 VS VN XS XN T np w) (hb : Below w.heap.size w w') : FQ B0 ob rb mb cs0 k v1 v4 VS VN XS XN T np w' :=
  h.keeps (t := 1) (Keeps.of_below (F := fun _ => False) hb) (fun _ _ e => e.elim) (.inl rfl)
/-- other tags for blocks that are not there yet -/
theorem FQ.tag (h : FQ B0 ob rb mb cs0 k v1 v4 VS VN XS XN T np w) (b : Nat) (hb : w.heap.size ≤ b) (q : Nat) : FQ B0 ob rb mb cs0 k v1 v4 VS VN XS XN (fun g => if g < b then T g else q) np w := by
  have i0 : ∀ g, g < w.heap.size → (if g < b then T g else q) = T g := fun g hg => if_pos (by omega)
  refine ⟨h.blk, h.src, h.res, ⟨?_, ?_, ?_, h.t0.2.2.2⟩, h.lo, ⟨h.s.1, fun g hg => ?_⟩, ⟨h.n.1, fun g hg => ?_⟩, h.inl, fun i x l hx hl => ?_⟩
  · exact (i0 _ h.blk.lt).trans h.t0.1
  · exact (i0 _ h.res.lt).trans h.t0.2.1
  · exact (i0 _ h.src.lt).trans h.t0.2.2.1
  · exact ⟨(i0 _ (h.s.1.lt hg)).trans (h.s.2 g hg).1, (h.s.2 g hg).2⟩
  · exact ⟨(i0 _ (h.n.1.lt hg)).trans (h.n.2 g hg).1, (h.n.2 g hg).2⟩
  · obtain ⟨a, k', c, e, hr⟩ := h.inn i x l hx hl
    refine ⟨a, k', c, e, hr.mono (fun g hg e => ?_)⟩
    rw [i0 g hg] at e
    exact e
theorem one_more {w w5 : World} {V v' : Value} {X : List Value} {x : Value} {T : Nat → Nat} {t B0 : Nat} (hs0 : Sg w 1 V X.length X ∧ ∀ g, vblk V = some g → T g = t ∧ B0 ≤ g) (hB : B0 ≤ w.heap.size)
    (hs : Sg w5 1 v' (X.length + 1) (X ++ [x])) (hv : ∀ g, vblk v' = some g → vblk V = some g ∨ w.heap.size ≤ g) : Sg w5 1 v' (X ++ [x]).length (X ++ [x]) ∧ ∀ g, vblk v' = some g → (if g < w.heap.size then T g else t) = t ∧ B0 ≤ g := by
  refine ⟨by rw [List.length_append]; exact hs, fun g hg => ?_⟩
  rcases hv g hg with h | h
  · rw [if_pos (hs0.1.lt h)]; exact hs0.2 g h
  · rw [if_neg (by omega)]; exact ⟨rfl, Nat.le_trans hB h⟩
theorem FQ.pushS {x v' : Value} (h : FQ B0 ob rb mb cs0 k v1 v4 VS VN XS XN T np w) (hB : B0 ≤ w.heap.size) (hs : Sg w5 1 v' (XS.length + 1) (XS ++ [x])) (hv : ∀ g, vblk v' = some g → vblk VS = some g ∨ w.heap.size ≤ g) (hk : Keeps (fun q => vblk VS = some q) w w5) (h6 : Below w5.heap.size w5 w6) :
    FQ B0 ob rb mb cs0 k v1 v4 v' VN (XS ++ [x]) XN (fun g => if g < w.heap.size then T g else 2) np (w6.setCell ⟨ob, 2, none⟩ v') ∧ Below B0 w (w6.setCell ⟨ob, 2, none⟩ v') := by
  have ht := h.tag w.heap.size (Nat.le_refl _) 2
  have hm := one_more h.s hB hs hv
  have hk2 := hk.trans (Keeps.of_below (F := fun q => vblk VS = some q) h6) (fun _ _ e => e)
  have hks : Keeps (fun q => vblk VS = some q ∨ q = ob) w (w6.setCell ⟨ob, 2, none⟩ v') := (hk2.mono (fun _ _ e => .inl e)).set ob 2 v' (fun _ => .inr rfl)
  have nob : vblk VS ≠ some ob := fun e => by have := (h.s.2 ob e).1; have := h.t0.1; omega
  have off : ∀ g, T g ≠ 2 → g ≠ ob → ¬ (vblk VS = some g ∨ g = ob) := fun g h1 h2 e => e.elim (fun e => h1 (h.s.2 g e).1) h2
  have vob : vblk v' ≠ some ob := fun e => by
    rcases hv ob e with h' | h'
    · exact nob h'
    · have := h.blk.lt; omega
  refine ⟨⟨?_, hks.blk h.src (off _ (by have := h.t0.2.2.1; omega) (Ne.symm h.t0.2.2.2.2)), hks.blk h.res (off _ (by have := h.t0.2.1; omega) (Ne.symm h.t0.2.2.2.1)), ht.t0, h.lo, ⟨(hm.1.below h6).keeps ((Keeps.refl (fun z => z = ob) w6).set ob 2 v' (fun _ => rfl)) (fun g hg e => by subst e; exact vob hg), hm.2⟩, ⟨h.n.1.keeps hks (fun g hg e => ?_), ht.n.2⟩, h.inl, fun i y l hy hl => ?_⟩, hks.below hB (fun q hq e => ?_)⟩
  · exact (hk2.blk h.blk nob).set 2 v'
  · have h3 := (h.n.2 g hg).1
    rcases e with e | e
    · have := (h.s.2 g e).1; omega
    · subst e; have := h.t0.1; omega
  · obtain ⟨a, k', c, e, hr⟩ := ht.inn i y l hy hl
    refine ⟨a, k', c, e, hr.keeps hks (fun g hg e => ?_)⟩
    left
    rw [if_pos hg]
    rcases e with e | e
    · have := (h.s.2 g e).1; omega
    · subst e; have := h.t0.1; omega
  · rcases e with e | e
    · have := (h.s.2 q e).2; omega
    · have := h.lo; omega
/-- the names in the making -/
theorem FQ.pushL {x vl v' : Value} {xl : List Value} (h : FQ B0 ob rb mb cs0 k v1 v4 VS VN XS XN T np w) (hB : B0 ≤ w.heap.size) (hl : Sg w 1 vl xl.length xl ∧ ∀ g, vblk vl = some g → T g = 5 + np.length ∧ B0 ≤ g)
    (hs : Sg w5 1 v' (xl.length + 1) (xl ++ [x])) (hv : ∀ g, vblk v' = some g → vblk vl = some g ∨ w.heap.size ≤ g) (hk : Keeps (fun q => vblk vl = some q) w w5) :
    FQ B0 ob rb mb cs0 k v1 v4 VS VN XS XN (fun g => if g < w.heap.size then T g else 5 + np.length) np w5 ∧ (Sg w5 1 v' (xl ++ [x]).length (xl ++ [x]) ∧ ∀ g, vblk v' = some g → (if g < w.heap.size then T g else 5 + np.length) = 5 + np.length ∧ B0 ≤ g) ∧ Below B0 w w5 :=
  ⟨(h.tag w.heap.size (Nat.le_refl _) (5 + np.length)).keeps (t := 5 + np.length) hk (fun g hg e => by rw [if_pos hg]; exact (hl.2 g e).1) (.inr (Nat.le_refl _)), one_more hl hB hs hv, hk.below hB (fun q hq e => by have := (hl.2 q e).2; omega)⟩
theorem FQ.pushN {v' : Value} {a : Option Addr} {k' c : Nat} {l : List S} (h : FQ B0 ob rb mb cs0 k v1 v4 VS VN XS XN T np w) (hB : B0 ≤ w.heap.size) (hl : Rs (fun g => T g ≠ 5 + np.length ∨ g < B0) w a k' c (sv l))
    (hs : Sg w5 1 v' (XN.length + 1) (XN ++ [.slice a k' c])) (hv : ∀ g, vblk v' = some g → vblk VN = some g ∨ w.heap.size ≤ g) (hk : Keeps (fun q => vblk VN = some q) w w5) (h6 : Below w5.heap.size w5 w6) :
    FQ B0 ob rb mb cs0 k v1 v4 VS v' XS (XN ++ [.slice a k' c]) (fun g => if g < w.heap.size then T g else 3) (np ++ [l]) (w6.setCell ⟨ob, 3, none⟩ v') ∧ Below B0 w (w6.setCell ⟨ob, 3, none⟩ v') := by
  have ht := h.tag w.heap.size (Nat.le_refl _) 3
  have hm := one_more h.n hB hs hv
  have hk2 := hk.trans (Keeps.of_below (F := fun q => vblk VN = some q) h6) (fun _ _ e => e)
  have hks : Keeps (fun q => vblk VN = some q ∨ q = ob) w (w6.setCell ⟨ob, 3, none⟩ v') := (hk2.mono (fun _ _ e => .inl e)).set ob 3 v' (fun _ => .inr rfl)
  have nob : vblk VN ≠ some ob := fun e => by have := (h.n.2 ob e).1; have := h.t0.1; omega
  have off : ∀ g, T g ≠ 3 → g ≠ ob → ¬ (vblk VN = some g ∨ g = ob) := fun g h1 h2 e => e.elim (fun e => h1 (h.n.2 g e).1) h2
  have vob : vblk v' ≠ some ob := fun e => by
    rcases hv ob e with h' | h'
    · exact nob h'
    · have := h.blk.lt; omega
  have inner : ∀ (i : Nat) (a : Option Addr) (k' c : Nat) (l : List S), Rs (fun g => T g ≠ 5 + i ∨ g < B0) w a k' c (sv l) → Rs (fun g => (if g < w.heap.size then T g else 3) ≠ 5 + i ∨ g < B0) (w6.setCell ⟨ob, 3, none⟩ v') a k' c (sv l) := fun i a k' c l hr => by
    refine (hr.mono (F' := fun g => (if g < w.heap.size then T g else 3) ≠ 5 + i ∨ g < B0) (fun g hg e => by rw [if_pos hg] at e; exact e)).keeps hks (fun g hg e => ?_)
    left
    rw [if_pos hg]
    rcases e with e | e
    · have := (h.n.2 g e).1; omega
    · subst e; have := h.t0.1; omega
  refine ⟨⟨?_, hks.blk h.src (off _ (by have := h.t0.2.2.1; omega) (Ne.symm h.t0.2.2.2.2)), hks.blk h.res (off _ (by have := h.t0.2.1; omega) (Ne.symm h.t0.2.2.2.1)), ht.t0, h.lo, ⟨h.s.1.keeps hks (fun g hg e => ?_), ht.s.2⟩, ⟨(hm.1.below h6).keeps ((Keeps.refl (fun z => z = ob) w6).set ob 3 v' (fun _ => rfl)) (fun g hg e => by subst e; exact vob hg), hm.2⟩, by rw [List.length_append, List.length_append, h.inl]; rfl, fun i y l' hy hl' => ?_⟩, hks.below hB (fun q hq e => ?_)⟩
  · exact (hk2.blk h.blk nob).set 3 v'
  · have h3 := (h.s.2 g hg).1
    rcases e with e | e
    · have := (h.n.2 g e).1; omega
    · subst e; have := h.t0.1; omega
  · by_cases hi : i < XN.length
    · rw [List.getElem?_append_left hi] at hy
      rw [List.getElem?_append_left (by rw [← h.inl]; exact hi)] at hl'
      obtain ⟨a2, k2, c2, e, hr⟩ := h.inn i y l' hy hl'
      exact ⟨a2, k2, c2, e, inner i a2 k2 c2 l' hr⟩
    · rw [List.getElem?_append_right (by omega)] at hy
      rw [List.getElem?_append_right (by rw [← h.inl]; omega), ← h.inl] at hl'
      have hz : i - XN.length = 0 := by
        have := (List.getElem?_eq_some_iff.1 hy).1
        simp at this
        omega
      rw [hz] at hy hl'
      obtain rfl : Value.slice a k' c = y := by simpa using hy
      obtain rfl : l = l' := by simpa using hl'
      have hin : i = np.length := by rw [← h.inl]; omega
      subst hin
      exact ⟨a, k', c, rfl, inner _ a k' c l hl⟩
  · rcases e with e | e
    · have := (h.n.2 q e).2; omega
    · have := h.lo; omega
end
end Fe
end Go.Proofs.YtcbkbjpdfanjpaaGreatDoor
