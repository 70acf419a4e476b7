/-
KeeperBacksOff: the plain law, and the keeper beside the document's in memory.
-/
import Derived.Test.YtaenfkekdhnakaaKBeats
import Derived.Test.YtaenfkekdhnakaaKRNew
import Derived.Deep.RegionHeld3
namespace Go.Proofs.Ytaenfkekdhnakaa
open Go.RowKit

/-- one who waits -/
def bo (F M c si due f : Nat) : KS := { names := [], first := F, most := M, beat := 9, state := 0, clock := c, since := si, due := due, fails := f, wants := [], asked := [] }
def wt (F M n : Nat) : Nat := min (waitF M n F) M
/-- how long it waits ahead of its f-th try -/
def wait0 (F M : Nat) : Nat → Nat
  | 0 => 1
  | f + 1 => wt F M f
theorem waitF_pos (M : Nat) : ∀ n w, 1 ≤ w → 1 ≤ waitF M n w
  | 0, w, h => h
  | n + 1, w, h => by
    unfold waitF
    split
    · exact h
    · exact waitF_pos M n (w * 2) (by omega)
theorem wt_pos (F M n : Nat) (h1 : 1 ≤ F) (h2 : 1 ≤ M) : 1 ≤ wt F M n := by have := waitF_pos M n F h1; unfold wt; omega
theorem wt_le (F M n : Nat) : wt F M n ≤ M := Nat.min_le_right _ _
theorem wait0_pos (F M f : Nat) (h1 : 1 ≤ F) (h2 : 1 ≤ M) : 1 ≤ wait0 F M f := by
  cases f with
  | zero => exact Nat.le_refl _
  | succ f => exact wt_pos F M f h1 h2
theorem bo_new (F : Nat) (y : Int) (h1 : 1 ≤ F) (h2 : F ≤ 40) : newS [] F y 9 = bo F (max (F : Int) (min y 1048576)).toNat 0 0 1 0 := by
  have e1 : clampN (F : Int) = F := by unfold clampN; omega
  have e2 : clampN 9 = 9 := by unfold clampN; omega
  unfold newS bo
  rw [e1, e2]
  rfl
theorem bo_quiet (F M c si due f k : Nat) (h : c + k + 1 < due) : (bo F M (c + k) si due f).tick = (bo F M (c + (k + 1)) si due f, []) := by
  rw [tick_q0 rfl (by show c + k + 1 < due; omega)]
  rfl
theorem bo_connect (F M c si due f k : Nat) (h : c + k + 1 = due) : (bo F M (c + k) si due f).tick = ({ bo F M due due due f with state := 1 }, [(1, emp)]) := by
  rw [tick_c0 rfl (by show due ≤ c + k + 1; omega)]
  subst h
  rfl
theorem bo_lost (F M c f : Nat) (h : f < 1048576) : ({ bo F M c c c f with state := 1 } : KS).told 2 = (bo F M c c (c + wt F M f) (f + 1), []) := by
  unfold KS.told
  rw [if_neg (by omega), if_pos ⟨rfl, by simp⟩]
  have : min (f + 1) 1048576 = f + 1 := by omega
  unfold KS.fail
  show (({ names := [], first := F, most := M, beat := 9, state := 0, clock := c, since := c, due := c + min (waitF M f F) M, fails := min (f + 1) 1048576, wants := [], asked := [] } : KS), ([] : List (Nat × ByteArray))) = _
  rw [this]
  rfl
structure BK (w wr : World) (b b9 : Nat) (cs : List Value) (s : KS) : Prop where
  kf : KF wr (fun k => w.heap.size ≤ k ∧ k ≠ b9) b s
  blk : Blk wr b9 31 cs
  bel : Below w.heap.size w wr
theorem BK.below {w wr wx : World} {b b9 : Nat} {cs : List Value} {s : KS} (h : BK w wr b b9 cs s) (hb : Below wr.heap.size wr wx) : BK w wx b b9 cs s :=
  ⟨h.kf.below hb, h.blk.below hb h.blk.lt, h.bel.trans (hb.mono h.bel.size)⟩
theorem BK.of_acts {w wr wx : World} {b b9 : Nat} {cs : List Value} {s s' : KS} {vo : Value} {acts : List (Nat × ByteArray)} (h : BK w wr b b9 cs s) (ha : Acts wr wx (fun k => w.heap.size ≤ k ∧ k ≠ b9) b s' vo acts) : BK w wx b b9 cs s' :=
  ⟨ha.kp.mono fun k hk => hk.elim id (fun h' => ⟨by have := h.bel.size; omega, by have := h.blk.lt; omega⟩), ha.keeps.blk h.blk (fun e => e.2 rfl), below_of_keeps h.bel (ha.keeps.mono fun k _ hk => hk.1)⟩
theorem tickB (w : World) (b b9 : Nat) (cs : List Value) (s : KS) (wr : World) (h : BK w wr b b9 cs s) (hc : s.clock < 1000000000000) :
    Calls Try.prog 13 #[.pointer (some ⟨b, 0, none⟩)] wr fun e w' => ∃ vo, e = .returned vo ∧ BK w w' b b9 cs s.tick.1 ∧ Sg w' 2 vo s.tick.2.length (avals s.tick.2) := by
  refine (tickF _ b s wr h.kf hc).mono ?_
  rintro e w' ⟨vo, rfl, ha⟩
  exact ⟨vo, rfl, h.of_acts ha, ha.out⟩
theorem toldB (w : World) (b b9 : Nat) (cs : List Value) (s : KS) (what : Int) (wr : World) (h : BK w wr b b9 cs s) :
    Calls Try.prog 15 #[.pointer (some ⟨b, 0, none⟩), .int .i64 what] wr fun e w' => ∃ vo, e = .returned vo ∧ BK w w' b b9 cs (s.told what).1 ∧ Sg w' 2 vo (s.told what).2.length (avals (s.told what).2) := by
  refine (toldF _ b s what wr h.kf).mono ?_
  rintro e w' ⟨vo, rfl, ha⟩
  exact ⟨vo, rfl, h.of_acts ha, ha.out⟩
theorem varsB (w : World) (b b9 : Nat) (cs : List Value) (s : KS) (wr : World) (h : BK w wr b b9 cs s) :
    Calls Try.prog 19 #[.pointer (some ⟨b, 0, none⟩)] wr fun e w' => ∃ vh, e = .returned (.agg (vcells s vh).toArray) ∧ Sg w' 1 vh s.held.length (svals s.held) ∧ BK w w' b b9 cs s := by
  refine (varsF _ b s wr h.kf).mono ?_
  rintro e w' ⟨vh, rfl, h1, h2, h3⟩
  exact ⟨vh, rfl, h1, h.below h3⟩
/-- New, beside blocks that stay as they are -/
theorem newB (F : Nat) (y : Int) (w0 w : World) (g : Nat) (cs : List Value) (hg : Blk w g 24 cs) (hb : Below w0.heap.size w0 w) :
    Calls Try.prog 10 #[.agg #[.slice none 0 0, .int .i64 F, .int .i64 y, .int .i64 9]] w fun e w' => ∃ b, e = .returned (.pointer (some ⟨b, 0, none⟩)) ∧ KF w' (fun k => w.heap.size ≤ k ∧ k < w'.heap.size) b (newS [] F y 9) ∧ Below w.heap.size w w' ∧ Blk w' g 24 cs ∧ Below w0.heap.size w0 w' := by
  refine (new_ok [] _ F y 9 w (Sg.nil _ _) (by show 0 ≤ 1000; omega)).mono ?_
  rintro e w' ⟨b, vn, vw, rfl, hk, hbl, hvn⟩
  refine ⟨b, rfl, ⟨⟨vn, vw, _, { hk with base := Nat.zero_le _, basew := fun _ _ => Nat.zero_le _, basea := fun _ _ => Nat.zero_le _ }, ⟨hk.base, hk.blk.lt⟩, fun g hg => ⟨hvn g hg, hk.names.lt hg⟩, fun g hg => ⟨hk.basew g hg, hk.wants.lt hg⟩, fun g hg => by simp [vblk] at hg⟩, Ok.new [] F y 9⟩, hbl, hg.below hbl hg.lt, hb.trans (hbl.mono hb.size)⟩
theorem rnewB (F M : Nat) (y : Int) (w : World) (hN : newS [] F y 9 = bo F M 0 0 1 0) :
    Calls Try.prog 11 #[.slice none 0 0, .int .i64 F, .int .i64 y, .int .i64 9] w fun e w' => ∃ an cn ai ci, e = .returned (.agg #[.slice an 0 cn, .int .i64 F, .int .i64 M, .int .i64 9, .int .i64 0, .int .i64 0, .int .i64 0, .int .i64 1, .int .i64 0, .slice ai 0 ci, .slice none 0 0]) ∧ Below w.heap.size w w' := by
  refine (rnew_ok [] _ F y 9 w (Sg.nil _ _) (by show 0 ≤ 1000; omega)).mono ?_
  rintro e w' ⟨vn, vi, rfl, hx, _, _, hb⟩
  rw [hN] at hx ⊢
  obtain ⟨an, cn, rfl⟩ := hx.names.shape
  obtain ⟨ai, ci, rfl⟩ := hx.wants.shape
  exact ⟨an, cn, ai, ci, rfl, hb⟩
theorem cfg_cells {wx : World} {g : Nat} {F : Nat} {y : Int} (h : Blk wx g 24 [.slice none 0 0, .int .i64 F, .int .i64 y, .int .i64 9]) :
    wx.cell? ⟨g, 0, none⟩ = some (.slice none 0 0) ∧ wx.cell? ⟨g, 1, none⟩ = some (.int .i64 F) ∧ wx.cell? ⟨g, 2, none⟩ = some (.int .i64 y) ∧ wx.cell? ⟨g, 3, none⟩ = some (.int .i64 9) :=
  ⟨h.cell 0 _ rfl, h.cell 1 _ rfl, h.cell 2 _ rfl, h.cell 3 _ rfl⟩
theorem far11 {w : World} {g b : Nat} {t : TypeId} {cs : List Value} (h : Blk w g t cs) (hne : g ≠ b) (x0 x1 x2 x3 x4 x5 x6 x7 x8 x9 x10 : Value) :
    Blk (((((((((((w.setCell ⟨b, 0, none⟩ x0).setCell ⟨b, 1, none⟩ x1).setCell ⟨b, 2, none⟩ x2).setCell ⟨b, 3, none⟩ x3).setCell ⟨b, 4, none⟩ x4).setCell ⟨b, 5, none⟩ x5).setCell ⟨b, 6, none⟩ x6).setCell ⟨b, 7, none⟩ x7).setCell ⟨b, 8, none⟩ x8).setCell ⟨b, 9, none⟩ x9).setCell ⟨b, 10, none⟩ x10) g t cs :=
  ((((((((((h.far hne 0 x0).far hne 1 x1).far hne 2 x2).far hne 3 x3).far hne 4 x4).far hne 5 x5).far hne 6 x6).far hne 7 x7).far hne 8 x8).far hne 9 x9).far hne 10 x10
theorem waitB (F M n : Nat) (an ai : Option Addr) (cn ci : Nat) (w : World) (hn : n ≤ 1048576) (h1 : 1 ≤ F) (h2 : F ≤ M) (h3 : M ≤ 1048576) :
    Calls Try.prog 18 #[.agg #[.slice an 0 cn, .int .i64 F, .int .i64 M, .int .i64 9, .int .i64 0, .int .i64 0, .int .i64 0, .int .i64 1, .int .i64 0, .slice ai 0 ci, .slice none 0 0], .int .i64 n] w fun e w' => e = .returned (.int .i64 (wt F M n)) ∧ Below w.heap.size w w' :=
  wait_ok (bo F M 0 0 1 0) an ai none 0 cn 0 ci 0 0 n w hn h1 h2 h3
theorem varsBo (w : World) (b b9 : Nat) (cs : List Value) (F M c si due f : Nat) (wr : World) (h : BK w wr b b9 cs (bo F M c si due f)) :
    Calls Try.prog 19 #[.pointer (some ⟨b, 0, none⟩)] wr fun e w' => ∃ (x1 x2 x3 : Int) (vh : Value), e = .returned (.agg #[.int .i64 0, .int .i64 x1, .int .i64 x2, .int .i64 x3, .int .i64 0, vh]) ∧ x3 = (f : Nat) ∧ BK w w' b b9 cs (bo F M c si due f) := by
  refine (varsB w b b9 cs _ wr h).mono ?_
  rintro e w' ⟨vh, rfl, _, h1⟩
  exact ⟨_, _, _, vh, rfl, rfl, h1⟩
theorem BK.make {w W w3 w4 wx : World} {b b9 : Nat} {cs : List Value} {s : KS} (h : KF w3 (fun k => W.heap.size ≤ k ∧ k < w3.heap.size) b s) (h1 : Below w.heap.size w W) (hb : b9 < W.heap.size ∨ w3.heap.size ≤ b9) (h34 : Below w3.heap.size w3 w4) (hk : Keeps (fun k => k = b9) w4 wx) (hB : Blk wx b9 31 cs) (hbel : Below w.heap.size w wx) : BK w wx b b9 cs s :=
  ⟨((h.below h34).keeps hk (fun k hk e => by omega)).mono fun k hk => ⟨by have := h1.size; omega, by omega⟩, hB, hbel⟩
end Go.Proofs.Ytaenfkekdhnakaa
