/-
A keeper in the laws' hands: the contracts of its calls, told of one structure that hides where its parts lie.
-/
import Derived.Test.YtaenfkekdhnakaaKSame
import Derived.Deep.RegionWith
namespace Go.Proofs.Ytaenfkekdhnakaa
open Go.RowKit

/-- block b is a keeper in state s; it and all that it owns lie in blocks of F -/
structure KF (w : World) (F : Nat → Prop) (b : Nat) (s : KS) : Prop where
  lies : ∃ vn vw va, Kp w 0 b vn vw va s ∧ F b ∧ (∀ g, vblk vn = some g → F g) ∧ (∀ g, vblk vw = some g → F g) ∧ ∀ g, vblk va = some g → F g
  ok : s.Ok
theorem KF.keeps {w w' : World} {F G : Nat → Prop} {b : Nat} {s : KS} (h : KF w F b s) (hk : Keeps G w w') (hFG : ∀ k, F k → ¬ G k) : KF w' F b s := by
  obtain ⟨⟨vn, vw, va, hkp, hb, hn, hw, ha⟩, ho⟩ := h
  exact ⟨⟨vn, vw, va, hkp.keeps hk (hFG _ hb) (fun g hg => hFG _ (hn g hg)) (fun g hg => hFG _ (hw g hg)) (fun g hg => hFG _ (ha g hg)), hb, hn, hw, ha⟩, ho⟩
theorem KF.below {w w' : World} {F : Nat → Prop} {b : Nat} {s : KS} (h : KF w F b s) (hb : Below w.heap.size w w') : KF w' F b s := by
  obtain ⟨⟨vn, vw, va, hkp, r⟩, ho⟩ := h
  exact ⟨⟨vn, vw, va, hkp.below hb, r⟩, ho⟩
theorem KF.mono {w : World} {F G : Nat → Prop} {b : Nat} {s : KS} (h : KF w F b s) (hFG : ∀ k, F k → G k) : KF w G b s := by
  obtain ⟨⟨vn, vw, va, hkp, hb, hn, hw, ha⟩, ho⟩ := h
  exact ⟨⟨vn, vw, va, hkp, hFG _ hb, fun g hg => hFG _ (hn g hg), fun g hg => hFG _ (hw g hg), fun g hg => hFG _ (ha g hg)⟩, ho⟩
/-- what a call did, as the law sees it: the acts that it gave, and the keeper's new state -/
structure Acts (w w' : World) (F : Nat → Prop) (b : Nat) (s' : KS) (vo : Value) (acts : List (Nat × ByteArray)) : Prop where
  kp : KF w' (fun k => F k ∨ w.heap.size ≤ k ∧ k < w'.heap.size) b s'
  out : Sg w' 2 vo acts.length (avals acts)
  newo : ∀ g, vblk vo = some g → w.heap.size ≤ g
  keeps : Keeps F w w'
theorem Acts.of_did {w w' : World} {F : Nat → Prop} {b : Nat} {vn vw va vo va' : Value} {s' : KS} {acts : List (Nat × ByteArray)} (h : Did w 0 b vn vw va w' vo va' s' acts) (ho : s'.Ok) (hb : F b) (hn : ∀ g, vblk vn = some g → F g) (hw : ∀ g, vblk vw = some g → F g) (ha : ∀ g, vblk va = some g → F g) :
    Acts w w' F b s' vo acts :=
  { kp := ⟨⟨vn, vw, va', h.kp, .inl hb, fun g hg => .inl (hn g hg), fun g hg => .inl (hw g hg), fun g hg => (h.newa g hg).elim (fun h' => .inl (ha g h')) (fun h' => .inr ⟨h', h.kp.asked.lt hg⟩)⟩, ho⟩
    out := h.out, newo := h.newo
    keeps := h.keeps.mono fun k _ hk => by
      rcases hk with rfl | hk | hk
      · exact hb
      · exact hw k hk
      · exact ha k hk }
theorem tickF (F : Nat → Prop) (b : Nat) (s : KS) (w : World) (h : KF w F b s) (hc : s.clock < 1000000000000) :
    Calls Try.prog 13 #[.pointer (some ⟨b, 0, none⟩)] w fun e w' => ∃ vo, e = .returned vo ∧ Acts w w' F b s.tick.1 vo s.tick.2 := by
  obtain ⟨⟨vn, vw, va, hkp, hb, hn, hw, ha⟩, ho⟩ := h
  refine (tick_ok 0 b vn vw va s w hkp ho hc (Nat.zero_le _)).mono ?_
  rintro e w' ⟨vo, va', rfl, hd⟩
  exact ⟨vo, rfl, .of_did hd (Ok.tick ho hc) hb hn hw ha⟩
theorem toldF (F : Nat → Prop) (b : Nat) (s : KS) (what : Int) (w : World) (h : KF w F b s) :
    Calls Try.prog 15 #[.pointer (some ⟨b, 0, none⟩), .int .i64 what] w fun e w' => ∃ vo, e = .returned vo ∧ Acts w w' F b (s.told what).1 vo (s.told what).2 := by
  obtain ⟨⟨vn, vw, va, hkp, hb, hn, hw, ha⟩, ho⟩ := h
  refine (told_ok 0 b vn vw va s what w hkp ho (Nat.zero_le _)).mono ?_
  rintro e w' ⟨vo, va', rfl, hd⟩
  exact ⟨vo, rfl, .of_did hd (Ok.told ho what) hb hn hw ha⟩
theorem varsF (F : Nat → Prop) (b : Nat) (s : KS) (w : World) (h : KF w F b s) :
    Calls Try.prog 19 #[.pointer (some ⟨b, 0, none⟩)] w fun e w' => ∃ vh, e = .returned (.agg (vcells s vh).toArray) ∧ Sg w' 1 vh s.held.length (svals s.held) ∧ (∀ g, vblk vh = some g → w.heap.size ≤ g) ∧ Below w.heap.size w w' := by
  obtain ⟨⟨vn, vw, va, hkp, _⟩, ho⟩ := h
  exact vars_ok 0 b vn vw va s w hkp ho

/-- behind world w0 all of the keeper's doing lies in new blocks -/
structure KP (w0 w : World) (b : Nat) (s : KS) : Prop where
  kf : KF w (fun k => w0.heap.size ≤ k) b s
  bel : Below w0.heap.size w0 w
theorem KP.below {w0 w w' : World} {b : Nat} {s : KS} (h : KP w0 w b s) (hb : Below w.heap.size w w') : KP w0 w' b s :=
  ⟨h.kf.below hb, h.bel.trans (hb.mono h.bel.size)⟩
theorem below_of_keeps {w0 w w' : World} (h : Below w0.heap.size w0 w) (hk : Keeps (fun k => w0.heap.size ≤ k) w w') : Below w0.heap.size w0 w' :=
  h.trans ⟨hk.os, hk.tape, hk.output, hk.size, fun k hk' => hk.block k (by have := h.size; omega) (by omega)⟩
theorem KP.of_acts {w0 w w' : World} {b : Nat} {s' : KS} {vo : Value} {acts : List (Nat × ByteArray)} (hb : Below w0.heap.size w0 w) (h : Acts w w' (fun k => w0.heap.size ≤ k) b s' vo acts) : KP w0 w' b s' :=
  ⟨h.kp.mono fun k hk => hk.elim id (fun h' => by have := hb.size; omega), below_of_keeps hb h.keeps⟩
theorem tickP (w0 : World) (b : Nat) (s : KS) (w : World) (h : KP w0 w b s) (hc : s.clock < 1000000000000) :
    Calls Try.prog 13 #[.pointer (some ⟨b, 0, none⟩)] w fun e w' => ∃ vo, e = .returned vo ∧ KP w0 w' b s.tick.1 ∧ Sg w' 2 vo s.tick.2.length (avals s.tick.2) := by
  refine (tickF _ b s w h.kf hc).mono ?_
  rintro e w' ⟨vo, rfl, ha⟩
  exact ⟨vo, rfl, .of_acts h.bel ha, ha.out⟩
theorem toldP (w0 : World) (b : Nat) (s : KS) (what : Int) (w : World) (h : KP w0 w b s) :
    Calls Try.prog 15 #[.pointer (some ⟨b, 0, none⟩), .int .i64 what] w fun e w' => ∃ vo, e = .returned vo ∧ KP w0 w' b (s.told what).1 ∧ Sg w' 2 vo (s.told what).2.length (avals (s.told what).2) := by
  refine (toldF _ b s what w h.kf).mono ?_
  rintro e w' ⟨vo, rfl, ha⟩
  exact ⟨vo, rfl, .of_acts h.bel ha, ha.out⟩
theorem varsP (w0 : World) (b : Nat) (s : KS) (w : World) (h : KP w0 w b s) :
    Calls Try.prog 19 #[.pointer (some ⟨b, 0, none⟩)] w fun e w' => ∃ vh, e = .returned (.agg (vcells s vh).toArray) ∧ Sg w' 1 vh s.held.length (svals s.held) ∧ KP w0 w' b s := by
  refine (varsF _ b s w h.kf).mono ?_
  rintro e w' ⟨vh, rfl, h1, h2, h3⟩
  exact ⟨vh, rfl, h1, h.below h3⟩
theorem newP (names : List ByteArray) (v0 : Value) (f m bt : Int) (w0 w : World) (hb : Below w0.heap.size w0 w) (hs : Sg w 1 v0 names.length (svals names)) (hl : names.length ≤ 1000) :
    Calls Try.prog 10 #[.agg #[v0, .int .i64 f, .int .i64 m, .int .i64 bt]] w fun e w' => ∃ b, e = .returned (.pointer (some ⟨b, 0, none⟩)) ∧ KP w0 w' b (newS names f m bt) := by
  refine (new_ok names v0 f m bt w hs hl).mono ?_
  rintro e w' ⟨b, vn, vw, rfl, hk, hbl, hvn⟩
  refine ⟨b, rfl, ⟨⟨vn, vw, _, { hk with base := Nat.zero_le _, basew := fun _ _ => Nat.zero_le _, basea := fun _ _ => Nat.zero_le _ }, ?_, ?_, ?_, ?_⟩, Ok.new names f m bt⟩, hb.trans (hbl.mono hb.size)⟩
  · have := hk.base; have := hb.size; omega
  · intro g hg; have := hvn g hg; have := hb.size; omega
  · intro g hg; have := hk.basew g hg; have := hb.size; omega
  · intro g hg; simp [vblk] at hg
/-- the acts that the law types -/
theorem lit_acts (w : World) (t : TypeId) (k : Nat) (nm : ByteArray) : Sg (w.alloc (.cells #[.int .i64 (k : Nat), .string nm] t)) 2 (.slice (some ⟨w.heap.size, 0, none⟩) 1 1) 1 (avals [(k, nm)]) := by
  have hb : Blk (w.alloc (.cells #[.int .i64 (k : Nat), .string nm] t)) w.heap.size t [.int .i64 (k : Nat), .string nm] := Blk.new w _ _
  refine ⟨rfl, _, 1, rfl, Nat.le_refl _, by unfold maxLen; omega, .inr ⟨w.heap.size, 0, rfl, hb.lt, fun j hj => ?_, fun j hj => ?_⟩⟩
  · rw [Nat.zero_add]
    match j, hj with
    | 0, _ => exact ⟨by rw [hb.cell 0 _ rfl]; rfl, hb.free 0⟩
    | 1, _ => exact ⟨by rw [hb.cell 1 _ rfl]; rfl, hb.free 1⟩
  · rw [Nat.zero_add]
    match j, hj with
    | 0, _ => exact hb.cell 0 _ rfl
    | 1, _ => exact hb.cell 1 _ rfl
end Go.Proofs.Ytaenfkekdhnakaa
