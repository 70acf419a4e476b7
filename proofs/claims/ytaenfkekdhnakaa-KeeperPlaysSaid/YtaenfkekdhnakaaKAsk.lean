/-
A keeper's contracts: ask.
-/
import Derived.Test.YtaenfkekdhnakaaKFail
namespace Go.Proofs.Ytaenfkekdhnakaa
open Go.RowKit

/-- what is done, one behind the other, in cells -/
def avals : List (Nat × ByteArray) → List Value
  | [] => []
  | (k, nm) :: l => .int .i64 (k : Nat) :: .string nm :: avals l
theorem avals_len : ∀ l : List (Nat × ByteArray), (avals l).length = l.length * 2
  | [] => rfl
  | (_, _) :: l => by simp only [avals, List.length_cons, avals_len l]; omega
theorem avals_app : ∀ (l : List (Nat × ByteArray)) (k : Nat) (nm : ByteArray), avals (l ++ [(k, nm)]) = avals l ++ [.int .i64 (k : Nat), .string nm]
  | [], _, _ => rfl
  | (_, _) :: l, k, nm => by simp only [List.cons_append, avals, avals_app l k nm]
/-- the first i names asked, if they are so -/
def KS.askN (s : KS) (which : Nat → Bool) : Nat → List Nat × List Int × List (Nat × ByteArray)
  | 0 => (s.wants, s.asked, [])
  | i + 1 => if which (s.wants.getD i 0) then ((s.askN which i).1.set i 0, (s.askN which i).2.1 ++ [(i : Int)], (s.askN which i).2.2 ++ [(2, s.names.getD i ⟨#[]⟩)]) else s.askN which i
def KS.askAt (s : KS) (which : Nat → Bool) (i : Nat) : KS := { s with wants := (s.askN which i).1, asked := (s.askN which i).2.1 }
theorem askN_len (s : KS) (which : Nat → Bool) : ∀ i, (s.askN which i).1.length = s.wants.length ∧ (s.askN which i).2.1.length ≤ s.asked.length + i ∧ (s.askN which i).2.2.length ≤ i
  | 0 => ⟨rfl, Nat.le_refl _, Nat.le_refl _⟩
  | i + 1 => by
    have h := askN_len s which i
    unfold KS.askN
    split
    · simp; omega
    · omega
theorem askN_get (s : KS) (which : Nat → Bool) : ∀ i j, i ≤ j → (s.askN which i).1.getD j 0 = s.wants.getD j 0
  | 0, _, _ => rfl
  | i + 1, j, h => by
    have ih := askN_get s which i j (by omega)
    unfold KS.askN
    split
    · rw [List.getD_eq_getElem?_getD, List.getElem?_set_ne (by omega), ← List.getD_eq_getElem?_getD, ih]
    · exact ih

theorem Sg.cellAt {w : World} {g off n cap : Nat} {xs : List Value} (h : Sg w 1 (.slice (some ⟨g, off, none⟩) n cap) n xs) (i : Nat) (hi : i < n) : w.cell? ⟨g, off + i, none⟩ = xs[i]? ∧ w.frozen? ⟨g, off + i, none⟩ = false ∧ vblk (.slice (some ⟨g, off, none⟩) n cap) = some g ∧ n ≤ cap ∧ cap ≤ maxLen := by
  obtain ⟨g', off', cap', hv, h1, h2, h3, _, h4, _⟩ := h.open (by omega)
  simp only [Value.slice.injEq, Option.some.injEq, Addr.mk.injEq, and_true, true_and] at hv
  obtain ⟨⟨rfl, rfl⟩, rfl⟩ := hv
  have := h4 i (by omega)
  exact ⟨this.1, this.2, h3, h1, h2⟩
theorem Kp.want {w : World} {B b gw ow m cw : Nat} {vn va : Value} {s : KS} (h : Kp w B b vn (.slice (some ⟨gw, ow, none⟩) m cw) va s) (hm : s.wants.length = m) (i d : Nat) (hi : i < m) :
    Kp (w.setCell ⟨gw, ow + i, none⟩ (.int .i64 (d : Nat))) B b vn (.slice (some ⟨gw, ow, none⟩) m cw) va { s with wants := s.wants.set i d } := by
  have hw := h.wants
  rw [hm] at hw
  have hv := (hw.cellAt i hi).2.2.1
  have hk : Keeps (fun k => k = gw) w (w.setCell ⟨gw, ow + i, none⟩ (.int .i64 (d : Nat))) := (Keeps.refl _ w).set gw _ _ (fun _ => rfl)
  have e : nvals (s.wants.set i d) = (nvals s.wants).set i (.int .i64 (d : Nat)) := by simp [nvals, List.map_set]
  have hws : Sg (w.setCell ⟨gw, ow + i, none⟩ (.int .i64 (d : Nat))) 1 (.slice (some ⟨gw, ow, none⟩) m cw) (s.wants.set i d).length (nvals (s.wants.set i d)) := by
    rw [List.length_set, hm, e]; exact hw.set i hi _
  exact { h with blk := hk.blk h.blk (fun e => h.wb (by rw [hv, e])), names := h.names.keeps hk (fun g hg e => h.nw g hg (by rw [hv, e])), asked := h.asked.keeps hk (fun g hg e => h.wa gw hv (by rw [hg, e])), wants := hws }
theorem Kp.ask {w w2 : World} {B b : Nat} {vn vw va va2 : Value} {s : KS} {g' : Nat} (h : Kp w B b vn vw va s) (x : Int) (hs : Sg w2 1 va2 (s.asked.length + 1) (zvals s.asked ++ [.int .i64 x])) (hk : Keeps (fun k => vblk va = some k) w w2)
    (hv : vblk va2 = some g') (hg : vblk va = some g' ∨ w.heap.size ≤ g') (hB : B ≤ w.heap.size) :
    Kp (w2.setCell ⟨b, 10, none⟩ va2) B b vn vw va2 { s with asked := s.asked ++ [x] } := by
  have hkb : Keeps (fun k => k = b) w2 (w2.setCell ⟨b, 10, none⟩ va2) := (Keeps.refl _ w2).set b 10 _ (fun _ => rfl)
  have hne : g' ≠ b := by
    rcases hg with hg | hg
    · intro e; exact h.ab (by rw [hg, e])
    · have := h.blk.lt; omega
  have e1 : (s.asked ++ [x]).length = s.asked.length + 1 := by simp
  have e2 : zvals (s.asked ++ [x]) = zvals s.asked ++ [.int .i64 x] := by simp [zvals]
  have hsa : Sg (w2.setCell ⟨b, 10, none⟩ va2) 1 va2 (s.asked ++ [x]).length (zvals (s.asked ++ [x])) := by
    rw [e1, e2]; exact hs.keeps hkb (fun g hg e => by rw [hv] at hg; simp at hg; omega)
  have sep : ∀ {v : Value} {n : Nat} {xs : List Value}, Sg w 1 v n xs → apt v va → apt v va2 := fun hsv hap g hvg e => by
    rw [hv] at e
    simp only [Option.some.injEq] at e
    subst e
    rcases hg with h1 | h1
    · exact hap g' hvg h1
    · have := hsv.lt hvg; omega
  exact { h with
    blk := (hk.blk h.blk h.ab).set 10 va2
    names := (h.names.keeps hk h.na).keeps hkb (fun g hg e => h.nb (by rw [hg, e]))
    wants := (h.wants.keeps hk h.wa).keeps hkb (fun g hg e => h.wb (by rw [hg, e]))
    asked := hsa
    ab := by rw [hv]; simpa using hne
    na := sep h.names h.na
    wa := sep h.wants h.wa
    basea := fun g hga => by
      rw [hv] at hga
      simp only [Option.some.injEq] at hga
      subst hga
      rcases hg with h1 | h1
      · exact h.basea _ h1
      · omega }

theorem intInfo : (Try.prog.info? 3).map (fun i => (i.zero, i.size, i.bytes)) = some (some (.int .i64 0), 1, 8) := by kernel_rfl
theorem actInfo : (Try.prog.info? 50).map (fun i => (i.zero, i.size, i.bytes)) = some (some (.agg #[.int .i64 0, .string ⟨#[]⟩]), 2, 24) := by kernel_rfl
/-- what is known when i names have been asked -/
structure AskR (w : World) (B b : Nat) (vn vw va : Value) (s : KS) (which : Nat → Bool) (wr : World) (i : Nat) (vo va' : Value) : Prop where
  kp : Kp wr B b vn vw va' (s.askAt which i)
  out : Sg wr 2 vo (s.askN which i).2.2.length (avals (s.askN which i).2.2)
  keeps : Keeps (Kf b vw va) w wr
  newa : ∀ g, vblk va' = some g → vblk va = some g ∨ w.heap.size ≤ g
  newo : ∀ g, vblk vo = some g → w.heap.size ≤ g
  apart : apt vo va'
  nilo : (s.askN which i).2.2 = [] → vo = .slice none 0 0
theorem AskR.skip {w : World} {B b : Nat} {vn vw va : Value} {s : KS} {which : Nat → Bool} {wr : World} {i : Nat} {vo va' : Value} (h : AskR w B b vn vw va s which wr i vo va') (hw : which (s.wants.getD i 0) = false) : AskR w B b vn vw va s which wr (i + 1) vo va' := by
  have e : s.askN which (i + 1) = s.askN which i := by
    show (if which (s.wants.getD i 0) then _ else _) = _
    rw [if_neg (by rw [hw]; simp)]
  have e2 : s.askAt which (i + 1) = s.askAt which i := by unfold KS.askAt; rw [e]
  exact { h with kp := by rw [e2]; exact h.kp, out := by rw [e]; exact h.out, nilo := by rw [e]; exact h.nilo }

theorem AskR.vo1 {w : World} {B b : Nat} {vn vw va : Value} {s : KS} {which : Nat → Bool} {wr : World} {i : Nat} {vo va' : Value} (hk0 : Kp w B b vn vw va s) (h : AskR w B b vn vw va s which wr i vo va')
    {w1 w2 : World} {o1 : Obj} (hk1 : Keeps (fun k => vblk vw = some k) wr w1) (hk2 : Keeps (fun k => vblk va' = some k) (w1.alloc o1) w2) (va2 : Value) :
    Sg w1 2 vo (s.askN which i).2.2.length (avals (s.askN which i).2.2) ∧ Sg (w2.setCell ⟨b, 10, none⟩ va2) 2 vo (s.askN which i).2.2.length (avals (s.askN which i).2.2) := by
  have b2 : Below w1.heap.size w1 (w1.alloc o1) := (Below.refl _ _).alloc (Nat.le_refl _) _
  have h1 := h.out.keeps hk1 (fun g hg e => by have := h.newo g hg; have := hk0.wants.lt e; omega)
  have h2 := (h1.below b2).keeps hk2 h.apart
  have hkb : Keeps (fun k => k = b) w2 (w2.setCell ⟨b, 10, none⟩ va2) := (Keeps.refl _ w2).set b 10 _ (fun _ => rfl)
  exact ⟨h1, h2.keeps hkb (fun g hg e => by have := h.newo g hg; have := hk0.blk.lt; omega)⟩
theorem AskR.next {w : World} {B b : Nat} {vn vw va : Value} {s : KS} {which : Nat → Bool} {wr : World} {i : Nat} {vo va' : Value} (hk0 : Kp w B b vn vw va s) (hB : B ≤ w.heap.size) (h : AskR w B b vn vw va s which wr i vo va') (hw : which (s.wants.getD i 0) = true)
    {w1 w2 w4 : World} {o1 o2 : Obj} {va2 vo2 : Value} {g' g2 : Nat} (k1 : Kp w1 B b vn vw va' { s.askAt which i with wants := (s.askAt which i).wants.set i 0 }) (hk1 : Keeps (fun k => vblk vw = some k) wr w1)
    (hs2 : Sg w2 1 va2 ((s.askAt which i).asked.length + 1) (zvals (s.askAt which i).asked ++ [.int .i64 i])) (hk2 : Keeps (fun k => vblk va' = some k) (w1.alloc o1) w2) (hv2 : vblk va2 = some g') (hg2 : vblk va' = some g' ∨ w1.heap.size + 1 ≤ g')
    (hs4 : Sg w4 2 vo2 ((s.askN which i).2.2.length + 1) (avals (s.askN which i).2.2 ++ [.int .i64 (2 : Nat), .string (s.names.getD i ⟨#[]⟩)])) (hk4 : Keeps (fun k => vblk vo = some k) ((w2.setCell ⟨b, 10, none⟩ va2).alloc o2) w4) (hv4 : vblk vo2 = some g2) (hg4 : vblk vo = some g2 ∨ w2.heap.size + 1 ≤ g2) :
    AskR w B b vn vw va s which w4 (i + 1) vo2 va2 := by
  obtain ⟨w3, e3⟩ : ∃ w3, w3 = w2.setCell ⟨b, 10, none⟩ va2 := ⟨_, rfl⟩
  have hkb : Keeps (fun k => k = b) w2 w3 := by rw [e3]; exact (Keeps.refl _ w2).set b 10 _ (fun _ => rfl)
  have z1 : w.heap.size ≤ w1.heap.size := Nat.le_trans h.keeps.size hk1.size
  have z2 : w1.heap.size + 1 ≤ w2.heap.size := Nat.le_trans (by simp) hk2.size
  have z3 : w3.heap.size = w2.heap.size := by rw [e3]; simp [World.setCell]
  have b2 : Below w1.heap.size w1 (w1.alloc o1) := (Below.refl _ _).alloc (Nat.le_refl _) _
  have b4 : Below w3.heap.size w3 (w3.alloc o2) := (Below.refl _ _).alloc (Nat.le_refl _) _
  have k3 := (k1.below b2).ask (i : Int) hs2 hk2 hv2 (hg2.imp id (fun h' => by simpa using h')) (Nat.le_trans hB (Nat.le_trans z1 b2.size))
  have vo1 := (h.vo1 hk0 hk1 hk2 va2).1
  rw [← e3] at k3 hk4
  have hap : ∀ g, vblk vo = some g → g ≠ g' := fun g hg e => by
    subst e
    rcases hg2 with h1 | h1
    · exact h.apart _ hg h1
    · have := vo1.lt hg; omega
  have hold : ∀ g, vblk vo = some g → w.heap.size ≤ g := h.newo
  have k4 := (k3.below b4).keeps hk4 (fun e => by have := hold b e; have := hk0.blk.lt; omega) (fun g hg e => by have := hold g e; have := hk0.names.lt hg; omega) (fun g hg e => by have := hold g e; have := hk0.wants.lt hg; omega)
    (fun g hg e => hap g e (by rw [hv2] at hg; simpa using hg.symm))
  have es : s.askN which (i + 1) = ((s.askN which i).1.set i 0, (s.askN which i).2.1 ++ [(i : Int)], (s.askN which i).2.2 ++ [(2, s.names.getD i ⟨#[]⟩)]) := by
    show (if which (s.wants.getD i 0) then _ else _) = _
    rw [if_pos hw]
  have ea : s.askAt which (i + 1) = { s.askAt which i with wants := (s.askAt which i).wants.set i 0, asked := (s.askAt which i).asked ++ [(i : Int)] } := by
    unfold KS.askAt; rw [es]
  refine { kp := by rw [ea]; exact k4, out := ?_, keeps := ?_, newa := ?_, newo := ?_, apart := ?_, nilo := fun h => by rw [es] at h; simp at h }
  · rw [es]
    show Sg w4 2 vo2 ((s.askN which i).2.2 ++ [(2, s.names.getD i ⟨#[]⟩)]).length (avals ((s.askN which i).2.2 ++ [(2, s.names.getD i ⟨#[]⟩)]))
    rw [avals_app, List.length_append]
    exact hs4
  · refine ((((h.keeps.trans hk1 (fun k _ h => .inr (.inl h))).trans (Keeps.of_below (F := fun _ => False) b2) (fun _ _ h => h.elim)).trans hk2 ?_).trans hkb (fun k _ h => .inl h)).trans (Keeps.of_below (F := fun _ => False) b4) (fun _ _ h => h.elim) |>.trans hk4 ?_
    · intro k hk hv
      rcases h.newa k hv with h1 | h1
      · exact .inr (.inr h1)
      · omega
    · intro k hk hv
      have := hold k hv
      omega
  · intro g hg
    rw [hv2] at hg
    obtain rfl := Option.some.inj hg
    rcases hg2 with h1 | h1
    · exact h.newa _ h1
    · exact .inr (by omega)
  · intro g hg
    rw [hv4] at hg
    obtain rfl := Option.some.inj hg
    rcases hg4 with h1 | h1
    · exact h.newo _ h1
    · omega
  · intro g hg hga
    rw [hv4] at hg
    rw [hv2] at hga
    obtain rfl := Option.some.inj hg
    obtain rfl := Option.some.inj hga
    rcases hg4 with h1 | h1
    · exact hap _ h1 rfl
    · have := hs2.lt hv2; omega

set_option maxHeartbeats 4000000 in
set_option maxRecDepth 100000 in
theorem ask_ok (f : FuncId) (hcf : ∀ (args : Array Value) (w : World), (callFunc f args).run Try.prog w = .ok (.enter f args) w) (which : Nat → Bool) (hf : ∀ (x : Nat) w, Calls Try.prog f #[.int .i64 x] w fun e w' => e = .returned (.bool (which x)) ∧ w = w') (B b : Nat) (vn vw va : Value) (s : KS) (w : World) (hk : Kp w B b vn vw va s) (ho : s.Ok) (hl : s.asked.length ≤ 1) (hB : B ≤ w.heap.size) :
    Calls Try.prog 25 #[.pointer (some ⟨b, 0, none⟩), .func (.func f) #[] #[]] w fun e w' => ∃ vo va', e = .returned vo ∧ AskR w B b vn vw va s which w' s.names.length vo va' := by
  obtain ⟨i0, hi, hz0, hz1, hz2⟩ := info_parts intInfo
  obtain ⟨j0, hj, hy0, hy1, hy2⟩ := info_parts actInfo
  have I := Lib.hid hi
  have I0 := Lib.hid hz0
  have I1 := Lib.hid hz1
  have I2 := Lib.hid hz2
  have J := Lib.hid hj
  have J0 := Lib.hid hy0
  have J1 := Lib.hid hy1
  have J2 := Lib.hid hy2
  clear hi hz0 hz1 hz2 hj hy0 hy1 hy2
  have R0 : Hid (AskR w B b vn vw va s which w 0 (.slice none 0 0) va) := { kp := hk, out := Sg.nil _ _, keeps := Keeps.refl _ _, newa := fun g h => .inl h, newo := fun g h => by simp [vblk] at h, apart := fun g h => by simp [vblk] at h, nilo := fun _ => rfl }
  have HNW : Hid (s.names.length = s.wants.length) := ho.names
  have hfew := ho.few
  have O := Lib.hid ho
  have HF := Lib.hid hf
  have c0 := hk.blk.cell 0 _ rfl
  have c9 := hk.blk.cell 9 _ rfl
  obtain ⟨n, hn⟩ : ∃ n, n = s.names.length := ⟨_, rfl⟩
  have HN := Lib.hid hn
  rcases Nat.eq_zero_or_pos n with h0 | hpos
  · obtain ⟨ao, cw, hv⟩ : ∃ ao cw, vw = .slice ao 0 cw := by
      obtain ⟨_, ao, cap, hv, _⟩ := hk.wants
      exact ⟨ao, cap, by rw [hv, ← HNW.out, ← hn, h0]⟩
    subst hv
    rw [← hn, h0]
    clear hk ho hf hn h0 hfew HN
    go_enter Try.func25, Try.ntmps25
    go_wp2_with fail
    go_loopw [5, 13] (fun vo vi wr => vo = .slice none 0 0 ∧ vi = .int .i64 0 ∧ w = wr) (fun _ _ _ => 0)
    case atStart => exact ⟨rfl, rfl, rfl⟩
    case round =>
      obtain ⟨rfl, rfl, rfl⟩ := hrel
      go_wp2_with fail
      go_ret
      exact ⟨_, _, rfl, R0.out⟩
  · obtain ⟨gw, ow, cw, hvw, -, -, hvbw, -, -, -⟩ := hk.wants.open (by rw [← HNW.out, ← hn]; exact hpos)
    obtain ⟨gn, on, cn, hvn, hcn, hcn2, hvbn, -, hnx, -⟩ := hk.names.open (by rw [← hn]; exact hpos)
    rw [← HNW.out, ← hn] at hvw
    rw [← hn] at hvn hcn
    subst hvw hvn
    rw [← hn]
    have HK := Lib.hid hk
    have hn16 : n ≤ 16 := by rw [hn]; exact hfew
    clear hk ho hf hn hnx
    go_enter Try.func25, Try.ntmps25
    go_wp2_with fail
    go_loopw [5, 13] (fun vo vi wr => ∃ i : Nat, vi = .int .i64 i ∧ i ≤ n ∧ Hid (∃ va', AskR w B b (.slice (some ⟨gn, on, none⟩) n cn) (.slice (some ⟨gw, ow, none⟩) n cw) va s which wr i vo va')) (fun _ vi _ => n - (intOf vi).toNat)
    case atStart => exact ⟨0, rfl, by omega, _, R0.out⟩
    case round =>
      clear R0 c0 c9
      obtain ⟨i, rfl, hi, hR⟩ := hrel
      obtain ⟨va', R1⟩ := hR.out
      have R := Lib.hid R1
      clear hR R1
      by_cases hgo : i < n
      · have hlen := askN_len s which i
        have hwl : (s.askAt which i).wants.length = n := by show (s.askN which i).1.length = n; rw [hlen.1, ← HNW.out, ← HN.out]
        have hw0 := R.out.kp.wants
        rw [hwl] at hw0
        have hcw := hw0.cellAt i hgo
        have hn0 := R.out.kp.names
        have hnl : (s.askAt which i).names.length = n := HN.out.symm
        rw [hnl] at hn0
        have hcn' := hn0.cellAt i hgo
        have hx0 : (nvals (s.askAt which i).wants)[i]? = some (.int .i64 (s.wants.getD i 0 : Nat)) := by
          rw [nvals_get _ _ (by rw [hwl]; exact hgo)]
          show some (Value.int .i64 ((s.askN which i).1.getD i 0 : Nat)) = _
          rw [askN_get s which i i (Nat.le_refl _)]
        have cW : wr.cell? ⟨gw, ow + i, none⟩ = some (.int .i64 (s.wants.getD i 0 : Nat)) := hcw.1.trans hx0
        have fW : wr.frozen? ⟨gw, ow + i, none⟩ = false := hcw.2.1
        have cN : wr.cell? ⟨gn, on + i, none⟩ = some (.string (s.names.getD i ⟨#[]⟩)) := hcn'.1.trans (by
          show (svals s.names)[i]? = _
          rw [svals_get _ _ (by rw [← HN.out]; exact hgo)])
        have c9 := R.out.kp.blk.cell 9 _ rfl
        have HWL := Lib.hid hwl
        have HLEN := Lib.hid hlen
        clear hw0 hcw hn0 hnl hcn' hx0 hwl hlen
        have HX : Hid (∀ x, x = s.wants.getD i 0 → which x = which (s.wants.getD i 0)) := fun x h => by rw [h]
        obtain ⟨x, hx⟩ : ∃ x, x = s.wants.getD i 0 := ⟨_, rfl⟩
        rw [← hx] at cW
        have HXX := Lib.hid hx
        clear hx
        cases hwx : which x with
        | false =>
          have HWX := Lib.hid hwx
          clear hwx
          have R2 := Lib.hid (R.out.skip (by rw [← HXX.out]; exact HWX.out))
          go_wp2_with fail
          refine (HF.out x _).mono ?_
          rintro e w' ⟨rfl, rfl⟩
          rw [HWX.out]
          go_wp2_with fail
          go_roundw
          case rel => exact ⟨i + 1, by go_num, by omega, _, R2.out⟩
          case measure => simp [intOf]; omega
        | true =>
          have HWX := Lib.hid hwx
          clear hwx
          have hvw : vblk (Value.slice (some ⟨gw, ow, none⟩) n cw) = some gw := hvbw
          have k1 := R.out.kp.want HWL.out i 0 hgo
          have hk1 : Keeps (fun k => vblk (Value.slice (some ⟨gw, ow, none⟩) n cw) = some k) wr (wr.setCell ⟨gw, ow + i, none⟩ (.int .i64 0)) := (Keeps.refl _ wr).set gw _ _ (fun _ => hvw)
          have K1 : Hid (Kp (wr.setCell ⟨gw, ow + i, none⟩ (.int .i64 0)) B b _ _ va' _) := k1
          have HK1 := Lib.hid hk1
          clear k1 hk1
          go_wp2_with fail
          refine (HF.out x _).mono ?_
          rintro e w' ⟨rfl, rfl⟩
          rw [HWX.out]
          go_upto_region 7 with fail
          generalize World.setCell wr _ _ = w1 at *
          have c10 := K1.out.blk.cell 10 _ rfl
          have hal : (s.askAt which i).asked.length + 1 ≤ 40 := by have := HLEN.out.2.1; show (s.askN which i).2.1.length + 1 ≤ 40; have := hfew; have := HN.out; omega
          have SA := Lib.hid (K1.out.asked.below ((Below.refl _ w1).alloc (Nat.le_refl _) (.cells #[.int .i64 i] 3)))
          go_wp2_with (at_builtin; refine wpList_append_sg _ rfl (.tmp 31) (.tmp 33) 25 rfl 3 i0 (.int .i64 0) 1 8 Try.underlying25 I.out I0.out I1.out I2.out rfl (by decide) va' _ _ rfl SA.out ⟨w1.heap.size, 0, none⟩ 1 1 [.int .i64 i] rfl rfl ?c1 ?c2 (by decide) ?b1 ?b2 ?grow)
          case c2 => rfl
          case b1 => unfold maxLen; omega
          case b2 => omega
          case grow =>
            intro g' off cap2 w2 hs2 hv2 hg2 hk2
            have c10' : w2.cell? ⟨b, 10, none⟩ = some va' := (hk2.blk (K1.out.blk.below ((Below.refl _ w1).alloc (Nat.le_refl _) (.cells #[.int .i64 i] 3)) K1.out.blk.lt) K1.out.ab).cell 10 _ rfl
            have f10' : w2.frozen? ⟨b, 10, none⟩ = false := (hk2.blk (K1.out.blk.below ((Below.refl _ w1).alloc (Nat.le_refl _) (.cells #[.int .i64 i] 3)) K1.out.blk.lt) K1.out.ab).free 10
            have K3 := Lib.hid ((K1.out.below ((Below.refl _ w1).alloc (Nat.le_refl _) (.cells #[.int .i64 i] 3))).ask (i : Int) hs2 hk2 hv2 (hg2.imp id (fun h' => by simpa using h')) (by
              have h1 := HK1.out.size
              have h2 := R.out.keeps.size
              simp
              omega))
            have VO := Lib.hid (R.out.vo1 HK.out HK1.out hk2 (.slice (some ⟨g', off, none⟩) ((s.askAt which i).asked.length + 1) cap2)).2
            have S2 := Lib.hid hs2
            have V2 := Lib.hid hv2
            have G2 := Lib.hid hg2
            have KK2 := Lib.hid hk2
            clear hs2 hv2 hg2 hk2 SA c10 hal
            go_upto_region 8 with fail
            obtain ⟨w3, e3⟩ : ∃ w3, w3 = w2.setCell ⟨b, 10, none⟩ (.slice (some ⟨g', off, none⟩) ((s.askAt which i).asked.length + 1) cap2) := ⟨_, rfl⟩
            rw [← e3] at K3 VO ⊢
            have E3 := Lib.hid e3
            clear e3
            have c0 := K3.out.blk.cell 0 _ rfl
            have cN3 : w3.cell? ⟨gn, on + i, none⟩ = some (.string (s.names.getD i ⟨#[]⟩)) := by
              have hn0 := K3.out.names
              have hnl : s.names.length = n := HN.out.symm
              have hn1 : Sg w3 1 (.slice (some ⟨gn, on, none⟩) n cn) n (svals s.names) := by rw [← hnl]; rw [hnl]; exact hnl ▸ hn0
              rw [(hn1.cellAt i hgo).1, svals_get _ _ (by rw [hnl]; exact hgo)]
            obtain ⟨nm, hnm⟩ : ∃ nm, nm = s.names.getD i ⟨#[]⟩ := ⟨_, rfl⟩
            rw [← hnm] at cN3
            have HNM := Lib.hid hnm
            clear hnm
            have hol : (s.askN which i).2.2.length + 1 ≤ 40 := by have := HLEN.out.2.2; omega
            have SO := Lib.hid (VO.out.below ((Below.refl _ w3).alloc (Nat.le_refl _) (.cells #[.int .i64 2, .string nm] 50)))
            clear cN c9 c10' f10'
            go_wp2_with (at_builtin; refine wpList_append_sg _ rfl (.tmp 37) (.tmp 47) 36 rfl 50 j0 (.agg #[.int .i64 0, .string ⟨#[]⟩]) 2 24 Try.underlying36 J.out J0.out J1.out J2.out rfl (by decide) _ _ _ rfl SO.out ⟨w3.heap.size, 0, none⟩ 1 1 [.int .i64 2, .string nm] rfl rfl ?d1 ?d2 (by decide) ?e1 ?e2 ?grow2)
            case d2 => exact ⟨rfl, rfl⟩
            case e1 => unfold maxLen; omega
            case e2 => omega
            case grow2 =>
              intro g2 off2 cap4 w4 hs4 hv4 hg4 hk4
              have hsz : w3.heap.size = w2.heap.size := by rw [E3.out]; simp [World.setCell]
              have R2 := Lib.hid (AskR.next (i := i) HK.out hB R.out (by rw [← HXX.out]; exact HWX.out) K1.out HK1.out S2.out KK2.out V2.out G2.out (by rw [← HNM.out]; exact hs4) (by rw [← E3.out]; exact hk4) hv4 (hg4.imp id (fun h => by omega)))
              clear hs4 hv4 hg4 hk4
              go_wp2_with fail
              go_roundw
              case rel => exact ⟨i + 1, by go_num, by omega, _, R2.out⟩
              case measure => simp [intOf]; omega
      · obtain rfl : i = n := by omega
        go_wp2_with fail
        go_ret
        exact ⟨_, _, rfl, R.out⟩
end Go.Proofs.Ytaenfkekdhnakaa
