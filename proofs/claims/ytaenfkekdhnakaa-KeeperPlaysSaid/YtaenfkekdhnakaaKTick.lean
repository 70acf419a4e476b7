/-
A keeper's contracts: Tick.
-/
import Derived.Test.YtaenfkekdhnakaaKAsk
import Derived.Laws.AppendOwnNone
namespace Go.Proofs.Ytaenfkekdhnakaa
open Go.RowKit

/-- what a call did -/
structure Did (w : World) (B b : Nat) (vn vw va : Value) (w' : World) (vo va' : Value) (s' : KS) (acts : List (Nat × ByteArray)) : Prop where
  kp : Kp w' B b vn vw va' s'
  out : Sg w' 2 vo acts.length (avals acts)
  keeps : Keeps (Kf b vw va) w w'
  newa : ∀ g, vblk va' = some g → vblk va = some g ∨ w.heap.size ≤ g
  newo : ∀ g, vblk vo = some g → w.heap.size ≤ g
  apart : apt vo va'
def emp : ByteArray := ⟨#[]⟩
def KS.tick1 (s : KS) : KS := { s with clock := s.clock + 1 }
def KS.pinged (s : KS) : KS := { s.tick1 with since := s.clock + 1, asked := [-1] }
def KS.tick (s : KS) : KS × List (Nat × ByteArray) :=
  if s.state = 0 then
    if s.due ≤ s.clock + 1 then ({ s with clock := s.clock + 1, state := 1, since := s.clock + 1 }, [(1, emp)]) else (s.tick1, [])
  else if s.state = 1 then
    if s.since + s.most ≤ s.clock + 1 then (s.tick1.fail, [(4, emp)]) else (s.tick1, [])
  else if s.since + s.beat ≤ s.clock + 1 then
    if s.asked = [] then
      (s.pinged.askAt (· == 2) s.pinged.names.length, (3, emp) :: (s.pinged.askN (· == 2) s.pinged.names.length).2.2)
    else (s.tick1.fail, [(4, emp)])
  else (s.tick1, [])

theorem Kp.num {w : World} {B b : Nat} {vn vw va : Value} {s : KS} (h : Kp w B b vn vw va s) (i : Nat) (v : Value) (s' : KS) (e : (kcells s vn vw va).set i v = kcells s' vn vw va) (en : s'.names = s.names) (ew : s'.wants = s.wants) (ea : s'.asked = s.asked) :
    Kp (w.setCell ⟨b, i, none⟩ v) B b vn vw va s' := by
  have hkb : Keeps (fun k => k = b) w (w.setCell ⟨b, i, none⟩ v) := (Keeps.refl _ w).set b i _ (fun _ => rfl)
  exact { h with
    blk := e ▸ h.blk.set i v
    names := by rw [en]; exact h.names.keeps hkb (fun g hg e => h.nb (by rw [hg, e]))
    wants := by rw [ew]; exact h.wants.keeps hkb (fun g hg e => h.wb (by rw [hg, e]))
    asked := by rw [ea]; exact h.asked.keeps hkb (fun g hg e => h.ab (by rw [hg, e])) }
theorem Sg.drewN {w : World} {size : Nat} {v : Value} {n : Nat} {xs : List Value} (h : Sg w size v n xs) (k : Nat) : Sg (w.drewN k) size v n xs := h
theorem Kp.drewN {w : World} {B b : Nat} {vn vw va : Value} {s : KS} (h : Kp w B b vn vw va s) (k : Nat) : Kp (w.drewN k) B b vn vw va s :=
  { h with blk := h.blk.drew k, names := h.names.drewN k, wants := h.wants.drewN k, asked := h.asked.drewN k }
theorem sg_nil_did {w : World} (w' : World) : Sg w' 2 (.slice none 0 0) 0 [] ∧ (∀ g, vblk (.slice none 0 0) = some g → w.heap.size ≤ g) := ⟨Sg.nil _ _, fun g h => by simp [vblk] at h⟩
theorem Did.quiet {w w' : World} {B b : Nat} {vn vw va : Value} {s' : KS} (hk : Kp w' B b vn vw va s') (hb : Keeps (fun k => k = b) w w') : Did w B b vn vw va w' (.slice none 0 0) va s' [] :=
  { kp := hk, out := Sg.nil _ _, keeps := hb.mono (fun _ _ h => .inl h), newa := fun _ h => .inl h, newo := fun g h => by simp [vblk] at h, apart := fun g h => by simp [vblk] at h }
/-- one act in a new block -/
theorem one_act (w : World) (k : Nat) (nm : ByteArray) : Sg (w.alloc (.cells #[.int .i64 (k : Nat), .string nm] 50)) 2 (.slice (some ⟨w.heap.size, 0, none⟩) 1 1) 1 [.int .i64 (k : Nat), .string nm] := by
  have hb : Blk (w.alloc (.cells #[.int .i64 (k : Nat), .string nm] 50)) w.heap.size 50 [.int .i64 (k : Nat), .string nm] := Blk.new w _ _
  refine ⟨rfl, _, 1, rfl, Nat.le_refl _, by unfold maxLen; omega, .inr ⟨w.heap.size, 0, rfl, hb.lt, fun j hj => ?_, fun j hj => ?_⟩⟩
  · rw [Nat.zero_add]
    match j, hj with
    | 0, _ => exact ⟨by rw [hb.cell 0 _ rfl]; rfl, hb.free 0⟩
    | 1, _ => exact ⟨by rw [hb.cell 1 _ rfl]; rfl, hb.free 1⟩
  · rw [Nat.zero_add]
    match j, hj with
    | 0, _ => exact hb.cell 0 _ rfl
    | 1, _ => exact hb.cell 1 _ rfl
theorem Did.one {w w1 : World} {B b : Nat} {vn vw va va' : Value} {s' : KS} (hk : Kp w1 B b vn vw va' s') (hb : Keeps (Kf b vw va) w w1) (hv : ∀ g, vblk va' = some g → vblk va = some g ∨ w.heap.size ≤ g) (k : Nat) :
    Did w B b vn vw va (w1.alloc (.cells #[.int .i64 (k : Nat), .string emp] 50)) (.slice (some ⟨w1.heap.size, 0, none⟩) 1 1) va' s' [(k, emp)] := by
  have hal : Below w1.heap.size w1 (w1.alloc (.cells #[.int .i64 (k : Nat), .string emp] 50)) := (Below.refl _ _).alloc (Nat.le_refl _) _
  refine { kp := hk.below hal, out := one_act w1 k emp, keeps := hb.trans (Keeps.of_below (F := fun _ => False) hal) (fun _ _ h => h.elim), newa := hv, newo := fun g h => ?_, apart := fun g h hg => ?_ }
  · simp [vblk] at h
    have := hb.size; omega
  · simp [vblk] at h
    have := hk.asked.lt hg; omega

theorem own_act {w : World} {h k : Nat} {nm : ByteArray} (hb : Blk w h 50 [.int .i64 (k : Nat), .string nm]) : w.ownsRow h 50 2 (.slice (some ⟨h, 0, none⟩) 1 1) 1 [.int .i64 (k : Nat), .string nm] :=
  ⟨rfl, .inr ⟨h, 1, #[.int .i64 (k : Nat), .string nm], rfl, Nat.le_refl _, hb, Nat.le_refl _, by unfold maxLen; omega, rfl, rfl⟩⟩
theorem sg_act {w : World} {h k : Nat} {nm : ByteArray} (hb : Blk w h 50 [.int .i64 (k : Nat), .string nm]) : Sg w 2 (.slice (some ⟨h, 0, none⟩) 1 1) 1 [.int .i64 (k : Nat), .string nm] := by
  refine ⟨rfl, _, 1, rfl, Nat.le_refl _, by unfold maxLen; omega, .inr ⟨h, 0, rfl, hb.lt, fun j hj => ?_, fun j hj => ?_⟩⟩
  · rw [Nat.zero_add]
    match j, hj with
    | 0, _ => exact ⟨by rw [hb.cell 0 _ rfl]; rfl, hb.free 0⟩
    | 1, _ => exact ⟨by rw [hb.cell 1 _ rfl]; rfl, hb.free 1⟩
  · rw [Nat.zero_add]
    match j, hj with
    | 0, _ => exact hb.cell 0 _ rfl
    | 1, _ => exact hb.cell 1 _ rfl
theorem avals_one (l : List (Nat × ByteArray)) : ∀ v ∈ avals l, v.oneCell' = true := by
  induction l with
  | nil => intro v h; cases h
  | cons x l ih =>
    obtain ⟨k, nm⟩ := x
    intro v h
    simp only [avals, List.mem_cons] at h
    rcases h with rfl | rfl | h
    · rfl
    · rfl
    · exact ih v h

set_option maxHeartbeats 4000000 in
set_option maxRecDepth 100000 in
theorem tick_quiet (B b : Nat) (vn vw va : Value) (s : KS) (w : World) (hk : Kp w B b vn vw va s) (ho : s.Ok) (hc : s.clock < 1000000000000)
    (hcase : (s.state = 0 ∧ s.clock + 1 < s.due) ∨ (s.state = 1 ∧ s.clock + 1 < s.since + s.most) ∨ (s.state = 2 ∧ s.clock + 1 < s.since + s.beat)) :
    Calls Try.prog 13 #[.pointer (some ⟨b, 0, none⟩)] w fun e w' => ∃ vo va', e = .returned vo ∧ Did w B b vn vw va w' vo va' s.tick1 [] := by
  have c2 := hk.blk.cell 2 _ rfl
  have c3 := hk.blk.cell 3 _ rfl
  have c4 := hk.blk.cell 4 _ rfl
  have c5 := hk.blk.cell 5 _ rfl
  have c6 := hk.blk.cell 6 _ rfl
  have c7 := hk.blk.cell 7 _ rfl
  have f5 := hk.blk.free 5
  have h3 := ho.most2
  have h4 := ho.beat2
  have h5 := ho.since
  have h6 := ho.due
  have fin : ∀ n1 n2 n3 n4, Did w B b vn vw va (((((w.setCell ⟨b, 5, none⟩ (.int .i64 (s.clock + 1))).drewN n1).drewN n2).drewN n3).drewN n4) (.slice none 0 0) va s.tick1 [] := fun n1 n2 n3 n4 =>
    Did.quiet ((((hk.num 5 _ s.tick1 (by simp [kcells, KS.tick1]) rfl rfl rfl).drewN n1).drewN n2).drewN n3 |>.drewN n4) ((((((Keeps.refl (fun k => k = b) w).set b 5 _ (fun _ => rfl)).drewN n1).drewN n2).drewN n3).drewN n4)
  have FIN := Lib.hid fin
  clear hk ho fin
  have e1 : IntKind.i64.wrap ((s.clock : Int) + 1 - s.since) = s.clock + 1 - s.since := IntWalk.i64_in _ (by omega)
  have hcase2 : (s.state = 0 ∧ decide ((s.due : Int) ≤ s.clock + 1) = false) ∨ (s.state = 1 ∧ decide ((s.most : Int) ≤ s.clock + 1 - s.since) = false) ∨ (s.state = 2 ∧ decide ((s.beat : Int) ≤ s.clock + 1 - s.since) = false) :=
    hcase.imp (fun h => ⟨h.1, decide_eq_false (by omega)⟩) (Or.imp (fun h => ⟨h.1, decide_eq_false (by omega)⟩) (fun h => ⟨h.1, decide_eq_false (by omega)⟩))
  clear hcase
  rcases hcase2 with ⟨q1, q2⟩ | ⟨q1, q2⟩ | ⟨q1, q2⟩
  all_goals
    rw [q1] at c4
    clear q1
    go_enter Try.func13, Try.ntmps13
    go_wp2_with fail
    go_quiet (fail)
    go_wp2_with fail
    go_quiet (fail)
    go_wp2_with fail
    go_quiet (fail)
    go_wp2_with fail
    go_quiet (fail)
    go_wp2_with fail
    go_ret
    exact ⟨_, _, rfl, FIN.out _ _ _ _⟩

theorem Did.drewN {w w' : World} {B b : Nat} {vn vw va vo va' : Value} {s' : KS} {acts : List (Nat × ByteArray)} (h : Did w B b vn vw va w' vo va' s' acts) (n : Nat) : Did w B b vn vw va (w'.drewN n) vo va' s' acts :=
  { h with kp := h.kp.drewN n, out := h.out.drewN n, keeps := h.keeps.drewN n }
set_option maxHeartbeats 4000000 in
set_option maxRecDepth 100000 in
theorem tick_connect (B b : Nat) (vn vw va : Value) (s : KS) (w : World) (hk : Kp w B b vn vw va s) (_ : s.Ok) (hc : s.clock < 1000000000000)
    (q1 : s.state = 0) (q2 : s.due ≤ s.clock + 1) :
    Calls Try.prog 13 #[.pointer (some ⟨b, 0, none⟩)] w fun e w' => ∃ vo va', e = .returned vo ∧ Did w B b vn vw va w' vo va' { s with clock := s.clock + 1, state := 1, since := s.clock + 1 } [(1, emp)] := by
  have c4 := hk.blk.cell 4 _ rfl
  have c5 := hk.blk.cell 5 _ rfl
  have c6 := hk.blk.cell 6 _ rfl
  have c7 := hk.blk.cell 7 _ rfl
  have f4 := hk.blk.free 4
  have f5 := hk.blk.free 5
  have f6 := hk.blk.free 6
  have fin : ∀ n, Did w B b vn vw va (((((w.setCell ⟨b, 5, none⟩ (.int .i64 (s.clock + 1))).drewN n).setCell ⟨b, 4, none⟩ (.int .i64 1)).setCell ⟨b, 6, none⟩ (.int .i64 (s.clock + 1))).alloc (.cells #[.int .i64 (1 : Nat), .string emp] 50)) (.slice (some ⟨w.heap.size, 0, none⟩) 1 1) va { s with clock := s.clock + 1, state := 1, since := s.clock + 1 } [(1, emp)] := by
    intro n
    have k3 := ((((hk.num 5 (.int .i64 (s.clock + 1)) s.tick1 (by simp [kcells, KS.tick1]) rfl rfl rfl).drewN n).num 4 (.int .i64 1) { s.tick1 with state := 1 } (by simp [kcells]) rfl rfl rfl).num 6 (.int .i64 (s.clock + 1)) { s with clock := s.clock + 1, state := 1, since := s.clock + 1 } (by simp [kcells, KS.tick1]) rfl rfl rfl)
    have hkk : Keeps (fun k => k = b) w ((((w.setCell ⟨b, 5, none⟩ (.int .i64 (s.clock + 1))).drewN n).setCell ⟨b, 4, none⟩ (.int .i64 1)).setCell ⟨b, 6, none⟩ (.int .i64 (s.clock + 1))) := ((((Keeps.refl (fun k => k = b) w).set b 5 _ (fun _ => rfl)).drewN n).set b 4 _ (fun _ => rfl)).set b 6 _ (fun _ => rfl)
    have D := Did.one k3 (hkk.mono (fun _ _ h => .inl h)) (fun _ h => .inl h) 1
    have e : ((((w.setCell ⟨b, 5, none⟩ (.int .i64 (s.clock + 1))).drewN n).setCell ⟨b, 4, none⟩ (.int .i64 1)).setCell ⟨b, 6, none⟩ (.int .i64 (s.clock + 1))).heap.size = w.heap.size := by simp [World.setCell, World.drewN]
    rw [e] at D
    exact D
  have FIN := Lib.hid fin
  rw [q1] at c4
  have d : decide ((s.due : Int) ≤ s.clock + 1) = true := decide_eq_true (by omega)
  clear hk fin q1
  go_enter Try.func13, Try.ntmps13
  go_wp2_with fail
  go_quiet (fail)
  go_wp2_with fail
  go_ret
  exact ⟨_, _, rfl, FIN.out _⟩

theorem Ok.tick1 {s : KS} (h : s.Ok) (hc : s.clock < 1000000000000) : s.tick1.Ok := { h with clock := by show s.clock + 1 ≤ _; omega, since := by show s.since ≤ s.clock + 1; have := h.since; omega }
set_option maxHeartbeats 4000000 in
set_option maxRecDepth 100000 in
theorem tick_hang (B b : Nat) (vn vw va : Value) (s : KS) (w : World) (hk : Kp w B b vn vw va s) (ho : s.Ok) (hc : s.clock < 1000000000000)
    (hcase : (s.state = 1 ∧ s.since + s.most ≤ s.clock + 1) ∨ (s.state = 2 ∧ s.since + s.beat ≤ s.clock + 1 ∧ s.asked ≠ [])) :
    Calls Try.prog 13 #[.pointer (some ⟨b, 0, none⟩)] w fun e w' => ∃ vo va', e = .returned vo ∧ Did w B b vn vw va w' vo va' s.tick1.fail [(4, emp)] := by
  obtain ⟨ao, cap, hva⟩ : ∃ ao cap, va = .slice ao s.asked.length cap := by
    obtain ⟨_, ao, cap, hv, _⟩ := hk.asked
    exact ⟨ao, cap, hv⟩
  have c2 := hk.blk.cell 2 _ rfl
  have c3 := hk.blk.cell 3 _ rfl
  have c4 := hk.blk.cell 4 _ rfl
  have c5 := hk.blk.cell 5 _ rfl
  have c6 := hk.blk.cell 6 _ rfl
  have c10 := hk.blk.cell 10 _ rfl
  rw [hva] at c10
  have f5 := hk.blk.free 5
  have h3 := ho.most2
  have h4 := ho.beat2
  have h5 := ho.since
  have hol := ho.asked
  have e1 : IntKind.i64.wrap ((s.clock : Int) + 1 - s.since) = s.clock + 1 - s.since := IntWalk.i64_in _ (by omega)
  have K1 := Lib.hid (hk.num 5 (.int .i64 (s.clock + 1)) s.tick1 (by simp [kcells, KS.tick1]) rfl rfl rfl)
  have O1 := Lib.hid (Ok.tick1 ho hc)
  have fin : ∀ n w2, Kp w2 B b vn vw (.slice none 0 0) s.tick1.fail → Keeps (Kf b vw va) ((w.setCell ⟨b, 5, none⟩ (.int .i64 (s.clock + 1))).drewN n) w2 → Did w B b vn vw va (w2.alloc (.cells #[.int .i64 (4 : Nat), .string emp] 50)) (.slice (some ⟨w2.heap.size, 0, none⟩) 1 1) (.slice none 0 0) s.tick1.fail [(4, emp)] := fun n w2 k2 kk2 =>
    Did.one k2 ((((Keeps.refl (fun k => k = b) w).set b 5 (.int .i64 (s.clock + 1)) (fun _ => rfl)).drewN n |>.mono (G := Kf b vw va) (fun _ _ h => .inl h)).trans kk2 (fun _ _ h => h)) (fun g h => by simp [vblk] at h) 4
  have FIN := Lib.hid fin
  have hcase2 : (s.state = 1 ∧ decide ((s.most : Int) ≤ s.clock + 1 - s.since) = true) ∨ (s.state = 2 ∧ decide ((s.beat : Int) ≤ s.clock + 1 - s.since) = true ∧ 0 < s.asked.length) :=
    hcase.imp (fun h => ⟨h.1, decide_eq_true (by omega)⟩) (fun h => ⟨h.1, decide_eq_true (by omega), List.length_pos_iff.2 h.2.2⟩)
  clear hk ho fin hcase hva
  rcases hcase2 with ⟨q1, q2⟩ | ⟨q1, q2, q3⟩
  · rw [q1] at c4
    clear q1
    go_enter Try.func13, Try.ntmps13
    go_wp2_with fail
    go_quiet (fail)
    go_wp2_with fail
    go_quiet (fail)
    go_wp2_with fail
    refine (fail_ok B b vn vw va s.tick1 _ (K1.out.drewN _) O1.out).mono ?_
    rintro e w2 ⟨rfl, k2, kk2⟩
    have D := Lib.hid (FIN.out _ w2 k2 kk2)
    clear k2 kk2
    go_wp2_with fail
    go_ret
    exact ⟨_, _, rfl, D.out⟩
  · rw [q1] at c4
    clear q1
    have g3 : decide ((0 : Int) < s.asked.length) = true := decide_eq_true (by omega)
    go_enter Try.func13, Try.ntmps13
    go_wp2_with fail
    go_quiet (fail)
    go_wp2_with fail
    go_quiet (fail)
    go_wp2_with fail
    go_quiet (fail)
    go_wp2_with fail
    refine (fail_ok B b vn vw va s.tick1 _ (K1.out.drewN _) O1.out).mono ?_
    rintro e w2 ⟨rfl, k2, kk2⟩
    have D := Lib.hid (FIN.out _ w2 k2 kk2)
    clear k2 kk2
    go_wp2_with fail
    go_ret
    exact ⟨_, _, rfl, D.out⟩

theorem wp_gen {P : Program} {c : Code} {Q : Exit → Act → World → Prop} {a : Act} {W : World} (R : World → Prop) (h : R W) (k : ∀ w1, R w1 → Code.wp P c Q a w1) : Code.wp P c Q a W := k W h
theorem ping_did {w w3 w5 w6 : World} {B b : Nat} {vn vw va va2 va' vo vr : Value} {s3 : KS} {which : Nat → Bool} {n gr : Nat} {o : Obj} {acts : List (Nat × ByteArray)} (k3 : Kp w3 B b vn vw va2 s3) (kk3 : Keeps (Kf b vw va) w w3) (hva2 : ∀ g, vblk va2 = some g → vblk va = some g ∨ w.heap.size ≤ g)
    (R : AskR (w3.alloc o) B b vn vw va2 s3 which w5 n vo va') (hr : Sg w6 2 vr acts.length (avals acts)) (hvr : vblk vr = some gr) (hgr : gr = w3.heap.size ∨ w5.heap.size ≤ gr) (hk6 : Keeps (fun k => k = w3.heap.size) w5 w6) :
    Did w B b vn vw va w6 vr va' (s3.askAt which n) acts := by
  have z1 := kk3.size
  have z2 : (w3.alloc o).heap.size = w3.heap.size + 1 := by simp
  have z3 := R.keeps.size
  have hap : ∀ g, vblk va' = some g → g ≠ w3.heap.size := fun g hg e => by
    rcases R.newa g hg with h | h
    · have := k3.asked.lt h; omega
    · omega
  have b4 : Below w3.heap.size w3 (w3.alloc o) := (Below.refl _ _).alloc (Nat.le_refl _) _
  refine { kp := R.kp.keeps hk6 (fun e => by have := k3.blk.lt; omega) (fun g hg e => by have := k3.names.lt hg; omega) (fun g hg e => by have := k3.wants.lt hg; omega) hap, out := hr, keeps := ?_, newa := ?_, newo := ?_, apart := ?_ }
  · refine (((kk3.trans (Keeps.of_below (F := fun _ => False) b4) (fun _ _ h => h.elim)).trans R.keeps ?_).trans hk6 (fun k hk e => by omega))
    rintro k hk (h | h | h)
    · exact .inl h
    · exact .inr (.inl h)
    · rcases hva2 k h with h1 | h1
      · exact .inr (.inr h1)
      · omega
  · intro g hg
    rcases R.newa g hg with h | h
    · exact hva2 g h
    · exact .inr (by omega)
  · intro g hg
    rw [hvr] at hg
    obtain rfl := Option.some.inj hg
    omega
  · intro g hg hga
    rw [hvr] at hg
    obtain rfl := Option.some.inj hg
    rcases hgr with h | h
    · exact hap _ hga h
    · have := R.kp.asked.lt hga; omega
/-- the closures -/
theorem denied_ok (x : Nat) (w : World) : Calls Try.prog 26 #[.int .i64 x] w fun e w' => e = .returned (.bool (x == 2)) ∧ w = w' := by
  by_cases h : x = 2
  · subst h
    go_enter Try.func26, Try.ntmps26
    go_wp2
    go_ret
    exact ⟨rfl, rfl⟩
  · have h2 : (x == 2) = false := by simpa using h
    have h3 : ((x : Int) == 2) = false := by simp; omega
    rw [h2]
    go_enter Try.func26, Try.ntmps26
    go_wp2
    go_ret
    exact ⟨rfl, rfl⟩
theorem all_ok (x : Nat) (w : World) : Calls Try.prog 27 #[.int .i64 x] w fun e w' => e = .returned (.bool true) ∧ w = w' := by
  go_enter Try.func27, Try.ntmps27
  go_wp2
  go_ret
  exact ⟨rfl, rfl⟩
theorem denied_cf (args : Array Value) (w : World) : (callFunc 26 args).run Try.prog w = .ok (.enter 26 args) w := by
  go_simp
theorem all_cf (args : Array Value) (w : World) : (callFunc 27 args).run Try.prog w = .ok (.enter 27 args) w := by
  go_simp

theorem Ok.pinged {s : KS} (ho : s.Ok) (hc : s.clock < 1000000000000) (q1 : s.state = 2) : s.pinged.Ok :=
  { Ok.tick1 ho hc with since := Nat.le_refl _, asked := (by show 1 ≤ 17; omega), places := (fun x hx => by have hx' : x ∈ [(-1 : Int)] := hx; simp at hx'; subst hx'; have := ho.names; constructor <;> omega), trying := (fun h => absurd q1 h) }
set_option maxHeartbeats 4000000 in
set_option maxRecDepth 100000 in
theorem tick_ping (B b : Nat) (vn vw va : Value) (s : KS) (w : World) (hk : Kp w B b vn vw va s) (ho : s.Ok) (hc : s.clock < 1000000000000) (hB : B ≤ w.heap.size)
    (q1 : s.state = 2) (q2 : s.since + s.beat ≤ s.clock + 1) (q3 : s.asked = []) :
    Calls Try.prog 13 #[.pointer (some ⟨b, 0, none⟩)] w fun e w' => ∃ vo va', e = .returned vo ∧
      Did w B b vn vw va w' vo va' (s.pinged.askAt (· == 2) s.pinged.names.length) ((3, emp) :: (s.pinged.askN (· == 2) s.pinged.names.length).2.2) := by
  obtain ⟨i0, hi, hz0, hz1, hz2⟩ := info_parts intInfo
  obtain ⟨j0, hj, hy0, hy1, hy2⟩ := info_parts actInfo
  have I := Lib.hid hi
  have I0 := Lib.hid hz0
  have I1 := Lib.hid hz1
  have I2 := Lib.hid hz2
  have J := Lib.hid hj
  have J0 := Lib.hid hy0
  have J1 := Lib.hid hy1
  have J2 := Lib.hid hy2
  clear hi hz0 hz1 hz2 hj hy0 hy1 hy2
  obtain ⟨ao, cap, hva⟩ : ∃ ao cap, va = .slice ao 0 cap := by
    obtain ⟨_, ao, cap, hv, _⟩ := hk.asked
    rw [q3] at hv
    exact ⟨ao, cap, hv⟩
  subst hva
  have c3 := hk.blk.cell 3 _ rfl
  have c4 := hk.blk.cell 4 _ rfl
  have c5 := hk.blk.cell 5 _ rfl
  have c6 := hk.blk.cell 6 _ rfl
  have c10 := hk.blk.cell 10 _ rfl
  have f5 := hk.blk.free 5
  have f6 := hk.blk.free 6
  have hfew := ho.few
  have h3 := ho.most2
  have h4 := ho.beat2
  have h5 := ho.since
  have e1 : IntKind.i64.wrap ((s.clock : Int) + 1 - s.since) = s.clock + 1 - s.since := IntWalk.i64_in _ (by omega)
  have d1 : decide ((s.beat : Int) ≤ s.clock + 1 - s.since) = true := decide_eq_true (by omega)
  have O3 := Lib.hid (Ok.pinged ho hc q1)
  have K2 := Lib.hid (fun n => ((hk.num 5 (.int .i64 (s.clock + 1)) s.tick1 (by simp [kcells, KS.tick1]) rfl rfl rfl).drewN n).num 6 (.int .i64 (s.clock + 1)) { s.tick1 with since := s.clock + 1, asked := [] } (by simp [kcells, KS.tick1]) rfl rfl q3.symm)
  have KK2 : Hid (∀ n, Keeps (fun k => k = b) w (((w.setCell ⟨b, 5, none⟩ (.int .i64 (s.clock + 1))).drewN n).setCell ⟨b, 6, none⟩ (.int .i64 (s.clock + 1)))) := fun n => (((Keeps.refl (fun k => k = b) w).set b 5 _ (fun _ => rfl)).drewN n).set b 6 _ (fun _ => rfl)
  have HK := Lib.hid hk
  have Q3 := Lib.hid q3
  rw [q1] at c4
  clear hk ho q1 q3
  go_enter Try.func13, Try.ntmps13
  go_wp2_with fail
  go_quiet (fail)
  go_wp2_with fail
  go_quiet (fail)
  go_wp2_with fail
  go_quiet (fail)
  go_wp2_with fail
  go_quiet (fail)
  go_upto_region 11 with fail
  refine wp_gen (fun w1 => Kp w1 B b vn vw (.slice ao 0 cap) { s.tick1 with since := s.clock + 1, asked := [] } ∧ Keeps (fun k => k = b) w w1) ⟨K2.out _, KK2.out _⟩ ?_
  rintro w1 ⟨k1, kk1⟩
  have K1 := Lib.hid k1
  have KK1 := Lib.hid kk1
  clear k1 kk1 K2 KK2 c3 c4 c5 c6 c10 f5 f6 e1 d1
  have c10 := K1.out.blk.cell 10 _ rfl
  have c0 := K1.out.blk.cell 0 _ rfl
  have SA := Lib.hid (show Sg (w1.alloc (.cells #[.int .i64 (-1)] 3)) 1 (.slice ao 0 cap) 0 [] from K1.out.asked.below ((Below.refl _ w1).alloc (Nat.le_refl _) (.cells #[.int .i64 (-1)] 3)))
  go_wp2_with (at_builtin; refine wpList_append_sg _ rfl (.tmp 130) (.tmp 131) 25 rfl 3 i0 (.int .i64 0) 1 8 Try.underlying25 I.out I0.out I1.out I2.out rfl (by decide) _ 0 [] rfl SA.out ⟨w1.heap.size, 0, none⟩ 1 1 [.int .i64 (-1)] rfl rfl ?c1 ?c2 (by decide) ?b1 ?b2 ?grow)
  case c2 => rfl
  case grow =>
    intro g' off cap2 w2 hs2 hv2 hg2 hk2
    have hal : Below w1.heap.size w1 (w1.alloc (.cells #[.int .i64 (-1)] 3)) := (Below.refl _ w1).alloc (Nat.le_refl _) _
    have hb2 := hk2.blk (K1.out.blk.below hal K1.out.blk.lt) K1.out.ab
    have c10' : w2.cell? ⟨b, 10, none⟩ = some (.slice ao 0 cap) := hb2.cell 10 _ rfl
    have f10' : w2.frozen? ⟨b, 10, none⟩ = false := hb2.free 10
    have k3 := (K1.out.below hal).ask (-1) hs2 hk2 hv2 (hg2.imp id (fun h' => by simpa using h')) (by
      have := KK1.out.size
      simp
      omega)
    have kk3 : Keeps (Kf b vw (.slice ao 0 cap)) w (w2.setCell ⟨b, 10, none⟩ (.slice (some ⟨g', off, none⟩) 1 cap2)) :=
      ((((KK1.out.mono (G := Kf b vw (.slice ao 0 cap)) (fun _ _ h => .inl h)).trans (Keeps.of_below (F := fun _ => False) hal) (fun _ _ h => h.elim)).trans hk2 (fun _ _ h => .inr (.inr h))).set b 10 _ (fun _ => .inl rfl))
    have hnw : ∀ g, vblk (.slice (some ⟨g', off, none⟩) 1 cap2) = some g → vblk (.slice ao 0 cap) = some g ∨ w.heap.size ≤ g := fun g hg => by
      have e := hv2.symm.trans hg
      obtain rfl := Option.some.inj e
      exact hg2.imp id (fun h => by have := KK1.out.size; omega)
    have K3 := Lib.hid k3
    have KK3 := Lib.hid kk3
    have NW := Lib.hid hnw
    clear hs2 hv2 hg2 hk2 hb2 k3 kk3 hnw SA c10 c0
    go_upto_region 12 with fail
    refine wp_gen (fun w3 => Kp w3 B b vn vw (.slice (some ⟨g', off, none⟩) 1 cap2) s.pinged ∧ Keeps (Kf b vw (.slice ao 0 cap)) w w3) ⟨K3.out, KK3.out⟩ ?_
    rintro w3 ⟨k3, kk3⟩
    have K3' := Lib.hid k3
    have KK3' := Lib.hid kk3
    clear k3 kk3 K3 KK3 c10' f10' K1 KK1
    have hal : Below w3.heap.size w3 (w3.alloc (.cells #[.int .i64 (3 : Nat), .string emp] 50)) := (Below.refl _ w3).alloc (Nat.le_refl _) _
    have K4 := Lib.hid (K3'.out.below hal)
    have hB3 : B ≤ (w3.alloc (.cells #[.int .i64 (3 : Nat), .string emp] 50)).heap.size := by
      have := KK3'.out.size
      simp
      omega
    go_wp2_with fail
    refine (ask_ok 26 denied_cf (· == 2) denied_ok B b vn vw _ s.pinged _ K4.out O3.out (by show 1 ≤ 1; omega) hB3).mono ?_
    rintro e w5 ⟨vo, va', rfl, R0⟩
    have R := Lib.hid R0
    have hbk : Blk w5 w3.heap.size 50 [.int .i64 (3 : Nat), .string emp] := R0.keeps.blk (Blk.new w3 _ _) (by
      rintro (h | h | h)
      · have := K3'.out.blk.lt; omega
      · have := K3'.out.wants.lt h; omega
      · have := K3'.out.asked.lt h; omega)
    have PD := Lib.hid (fun w6 vr gr acts => ping_did (w6 := w6) (vr := vr) (gr := gr) (acts := acts) K3'.out KK3'.out NW.out R0)
    have hon := askN_len s.pinged (· == 2) s.pinged.names.length
    have hnf := h3
    have HBK := Lib.hid hbk
    have hol : (s.pinged.askN (· == 2) s.pinged.names.length).2.2.length ≤ 16 := Nat.le_trans hon.2.2 hfew
    have hvw5 : vblk (.slice (some ⟨w3.heap.size, 0, none⟩) 1 1) = some w3.heap.size := by simp [vblk]
    have HV5 := Lib.hid hvw5
    clear hal hbk hon hvw5
    rcases houts : (s.pinged.askN (· == 2) s.pinged.names.length).2.2 with _ | ⟨x, l⟩
    · have hvo := R0.nilo houts
      subst hvo
      have OWN := Lib.hid (own_act HBK.out)
      have HO := Lib.hid houts
      clear R0 houts hol
      go_wp2_with (refine wpList_append_own_none rfl (.tmp 136) (.tmp 138) 36 rfl w3.heap.size 50 j0 2 Try.underlying36 J.out _ 1 _ rfl OWN.out rfl ?_)
      go_ret
      refine ⟨_, va', rfl, ?_⟩
      rw [HO.out]
      exact PD.out w5 _ w3.heap.size [(3, emp)] (sg_act HBK.out) HV5.out (.inl rfl) (Keeps.refl _ _)
    · have ho5 := R0.out
      rw [houts] at ho5
      obtain ⟨go', oo, co, hvo, hmc, hmm, -, -, hcell, -⟩ := ho5.open (by simp)
      subst hvo
      rw [houts] at hol
      have SB := Lib.hid (sg_act HBK.out)
      have HC := Lib.hid hcell
      have HO := Lib.hid houts
      clear R0 houts ho5 hcell
      go_wp2_with (at_builtin; refine wpList_append_sg _ rfl (.tmp 136) (.tmp 138) 36 rfl 50 j0 (.agg #[.int .i64 0, .string ⟨#[]⟩]) 2 24 Try.underlying36 J.out J0.out J1.out J2.out rfl (by decide) _ 1 _ rfl SB.out ⟨go', oo, none⟩ (x :: l).length co (avals (x :: l)) rfl (avals_len _) ?d1 ?d2 (by simp) ?e1 ?e2 ?grow2)
      case d1 =>
        intro j u hj
        have hl := (List.getElem?_eq_some_iff.1 hj).1
        rw [avals_len] at hl
        rw [Addr.add_lit, (HC.out j hl).1]; exact hj
      case d2 => exact avals_one _
      case e1 => unfold maxLen; simp at hol ⊢; omega
      case e2 => simp at hol ⊢; omega
      case grow2 =>
        intro g2 off2 cap4 w6 hs6 hv6 hg6 hk6
        go_wp2_with fail
        go_ret
        refine ⟨_, va', rfl, ?_⟩
        rw [HO.out]
        have hs7 : Sg w6 2 (.slice (some ⟨g2, off2, none⟩) (1 + (x :: l).length) cap4) ((3, emp) :: x :: l).length (avals ((3, emp) :: x :: l)) := by
          have e : ((3, emp) :: x :: l).length = 1 + (x :: l).length := by simp; omega
          rw [e]; exact hs6
        exact PD.out w6 _ g2 ((3, emp) :: x :: l) hs7 hv6 (hg6.imp (fun h => by rw [HV5.out] at h; exact (Option.some.inj h).symm) id) (hk6.mono (fun k _ h => by rw [HV5.out] at h; exact (Option.some.inj h).symm))
  all_goals (first | (unfold maxLen; omega) | omega)
end Go.Proofs.Ytaenfkekdhnakaa
