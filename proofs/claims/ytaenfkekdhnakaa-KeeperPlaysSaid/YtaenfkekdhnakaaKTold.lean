/-
A keeper's contracts: Tick in one, Told.
-/
import Derived.Test.YtaenfkekdhnakaaKTick
namespace Go.Proofs.Ytaenfkekdhnakaa
open Go.RowKit

theorem tick_ok (B b : Nat) (vn vw va : Value) (s : KS) (w : World) (hk : Kp w B b vn vw va s) (ho : s.Ok) (hc : s.clock < 1000000000000) (hB : B ≤ w.heap.size) :
    Calls Try.prog 13 #[.pointer (some ⟨b, 0, none⟩)] w fun e w' => ∃ vo va', e = .returned vo ∧ Did w B b vn vw va w' vo va' s.tick.1 s.tick.2 := by
  have hst := ho.state
  unfold KS.tick
  by_cases h0 : s.state = 0
  · rw [if_pos h0]
    by_cases h1 : s.due ≤ s.clock + 1
    · rw [if_pos h1]; exact tick_connect B b vn vw va s w hk ho hc h0 h1
    · rw [if_neg h1]; exact tick_quiet B b vn vw va s w hk ho hc (.inl ⟨h0, by omega⟩)
  · rw [if_neg h0]
    by_cases h1 : s.state = 1
    · rw [if_pos h1]
      by_cases h2 : s.since + s.most ≤ s.clock + 1
      · rw [if_pos h2]; exact tick_hang B b vn vw va s w hk ho hc (.inl ⟨h1, h2⟩)
      · rw [if_neg h2]; exact tick_quiet B b vn vw va s w hk ho hc (.inr (.inl ⟨h1, by omega⟩))
    · rw [if_neg h1]
      by_cases h2 : s.since + s.beat ≤ s.clock + 1
      · rw [if_pos h2]
        by_cases h3 : s.asked = []
        · rw [if_pos h3]; exact tick_ping B b vn vw va s w hk ho hc hB (by omega) h2 h3
        · rw [if_neg h3]; exact tick_hang B b vn vw va s w hk ho hc (.inr ⟨by omega, h2, h3⟩)
      · rw [if_neg h2]; exact tick_quiet B b vn vw va s w hk ho hc (.inr (.inr ⟨by omega, by omega⟩))

theorem Ok.fail {s : KS} (h : s.Ok) : s.fail.Ok := { h with
  state := Nat.zero_le _
  due := by
    have h1 : s.wait s.fails ≤ s.most := Nat.min_le_right _ _
    have h2 := h.most2
    have h3 := h.clock
    show s.clock + s.wait s.fails ≤ _
    omega
  fails := Nat.min_le_right _ _
  names := by show s.names.length = (List.replicate s.wants.length 0).length; rw [List.length_replicate]; exact h.names
  asked := Nat.zero_le _
  places := (fun x hx => by cases hx)
  wants := (fun x hx => by rw [(List.mem_replicate.1 hx).2]; omega)
  trying := (fun _ => rfl) }
theorem askN_mem (s : KS) (which : Nat → Bool) (hw : ∀ x ∈ s.wants, x ≤ 2) (ha : ∀ x ∈ s.asked, -1 ≤ x ∧ x < s.names.length) : ∀ i, i ≤ s.names.length → (∀ x ∈ (s.askN which i).1, x ≤ 2) ∧ (∀ x ∈ (s.askN which i).2.1, -1 ≤ x ∧ x < s.names.length)
  | 0, _ => ⟨hw, ha⟩
  | i + 1, h => by
    have ih := askN_mem s which hw ha i (by omega)
    unfold KS.askN
    split
    · refine ⟨fun x hx => ?_, fun x hx => ?_⟩
      · rcases List.mem_or_eq_of_mem_set hx with h1 | h1
        · exact ih.1 x h1
        · omega
      · rcases List.mem_append.1 hx with h1 | h1
        · exact ih.2 x h1
        · simp at h1; omega
    · exact ih
theorem Ok.ask {s : KS} (h : s.Ok) (which : Nat → Bool) (hs : s.state = 2) (hl : s.asked.length ≤ 1) : (s.askAt which s.names.length).Ok := by
  have hn := askN_len s which s.names.length
  have hm := askN_mem s which h.wants h.places s.names.length (Nat.le_refl _)
  have hf := h.few
  exact { h with
    names := by show s.names.length = (s.askN which s.names.length).1.length; rw [hn.1]; exact h.names
    asked := by show (s.askN which s.names.length).2.1.length ≤ 17; omega
    places := hm.2
    wants := hm.1
    trying := fun e => absurd hs e }
theorem Ok.tick {s : KS} (h : s.Ok) (hc : s.clock < 1000000000000) : s.tick.1.Ok := by
  have h1 := Ok.tick1 h hc
  have hst := h.state
  unfold KS.tick
  split
  · split
    · exact { h1 with state := (by show 1 ≤ 2; omega), since := Nat.le_refl _, trying := (fun _ => h.trying (by omega)) }
    · exact h1
  · split
    · split
      · exact Ok.fail h1
      · exact h1
    · split
      · split
        · exact Ok.ask (Ok.pinged h hc (by omega)) _ (show s.state = 2 by omega) (Nat.le_refl 1)
        · exact Ok.fail h1
      · exact h1

def KS.entered (s : KS) : KS := { s with state := 2, since := s.clock, fails := 0 }
def KS.answered (s : KS) (d : Nat) : KS := { s with wants := if s.asked.headD 0 = -1 then s.wants else s.wants.set (s.asked.headD 0).toNat d, asked := s.asked.tail }
def KS.told (s : KS) (what : Int) : KS × List (Nat × ByteArray) :=
  if what = 1 ∧ s.state = 1 then (s.entered.askAt (fun _ => true) s.entered.names.length, (s.entered.askN (fun _ => true) s.entered.names.length).2.2)
  else if what = 2 ∧ s.state ≠ 0 then (s.fail, [])
  else if (what = 3 ∨ what = 4) ∧ s.state = 2 ∧ s.asked ≠ [] then (s.answered (what - 2).toNat, [])
  else (s, [])
theorem Ok.entered {s : KS} (h : s.Ok) (h1 : s.state = 1) : s.entered.Ok := { h with state := Nat.le_refl 2, since := Nat.le_refl _, fails := Nat.zero_le _, trying := fun e => absurd rfl e }

set_option maxHeartbeats 4000000 in
set_option maxRecDepth 100000 in
theorem told_entered (B b : Nat) (vn vw va : Value) (s : KS) (w : World) (hk : Kp w B b vn vw va s) (ho : s.Ok) (hB : B ≤ w.heap.size) (q1 : s.state = 1) :
    Calls Try.prog 15 #[.pointer (some ⟨b, 0, none⟩), .int .i64 1] w fun e w' => ∃ vo va', e = .returned vo ∧
      Did w B b vn vw va w' vo va' (s.entered.askAt (fun _ => true) s.entered.names.length) (s.entered.askN (fun _ => true) s.entered.names.length).2.2 := by
  have c4 := hk.blk.cell 4 _ rfl
  have c5 := hk.blk.cell 5 _ rfl
  have c6 := hk.blk.cell 6 _ rfl
  have c8 := hk.blk.cell 8 _ rfl
  have f4 := hk.blk.free 4
  have f6 := hk.blk.free 6
  have f8 := hk.blk.free 8
  have OE := Lib.hid (Ok.entered ho q1)
  have hl : s.asked.length ≤ 1 := by rw [ho.trying (by omega)]; simp
  have K3 := Lib.hid (((hk.num 4 (.int .i64 2) { s with state := 2 } (by simp [kcells]) rfl rfl rfl).num 6 (.int .i64 s.clock) { s with state := 2, since := s.clock } (by simp [kcells]) rfl rfl rfl).num 8 (.int .i64 0) s.entered (by simp [kcells, KS.entered]) rfl rfl rfl)
  have KK3 : Hid (Keeps (fun k => k = b) w (((w.setCell ⟨b, 4, none⟩ (.int .i64 2)).setCell ⟨b, 6, none⟩ (.int .i64 s.clock)).setCell ⟨b, 8, none⟩ (.int .i64 0))) := (((Keeps.refl (fun k => k = b) w).set b 4 _ (fun _ => rfl)).set b 6 _ (fun _ => rfl)).set b 8 _ (fun _ => rfl)
  rw [q1] at c4
  clear hk ho q1
  go_enter Try.func15, Try.ntmps15
  go_upto_region 3 with fail
  refine wp_gen (fun w3 => Kp w3 B b vn vw va s.entered ∧ Keeps (fun k => k = b) w w3) ⟨K3.out, KK3.out⟩ ?_
  rintro w3 ⟨k3, kk3⟩
  have K3' := Lib.hid k3
  have KK3' := Lib.hid kk3
  clear k3 kk3 K3 KK3 c4 c5 c6 c8 f4 f6 f8
  go_wp2_with fail
  refine (ask_ok 27 all_cf (fun _ => true) all_ok B b vn vw va s.entered _ K3'.out OE.out hl (Nat.le_trans hB KK3'.out.size)).mono ?_
  rintro e w5 ⟨vo, va', rfl, R0⟩
  have D : Hid (Did w B b vn vw va w5 vo va' (s.entered.askAt (fun _ => true) s.entered.names.length) (s.entered.askN (fun _ => true) s.entered.names.length).2.2) :=
    { kp := R0.kp, out := R0.out, keeps := (KK3'.out.mono (G := Kf b vw va) (fun _ _ h => .inl h)).trans R0.keeps (fun _ _ h => h), newa := fun g h => (R0.newa g h).imp id (fun h => Nat.le_trans KK3'.out.size h), newo := fun g h => Nat.le_trans KK3'.out.size (R0.newo g h), apart := R0.apart }
  clear R0
  go_wp2_with fail
  go_ret
  exact ⟨_, _, rfl, D.out⟩

set_option maxHeartbeats 4000000 in
set_option maxRecDepth 100000 in
theorem told_lost (B b : Nat) (vn vw va : Value) (s : KS) (w : World) (hk : Kp w B b vn vw va s) (ho : s.Ok) (q1 : s.state ≠ 0) :
    Calls Try.prog 15 #[.pointer (some ⟨b, 0, none⟩), .int .i64 2] w fun e w' => ∃ vo va', e = .returned vo ∧ Did w B b vn vw va w' vo va' s.fail [] := by
  have c4 := hk.blk.cell 4 _ rfl
  have g1 : ((s.state : Int) == 0) = false := by simp; omega
  have g2 : ((s.state : Int) != 0) = true := by simp; omega
  have HK := Lib.hid hk
  have HO := Lib.hid ho
  clear hk ho q1
  go_enter Try.func15, Try.ntmps15
  go_wp2_with fail
  refine (fail_ok B b vn vw va s _ HK.out HO.out).mono ?_
  rintro e w2 ⟨rfl, k2, kk2⟩
  have D : Hid (Did w B b vn vw va w2 (.slice none 0 0) (.slice none 0 0) s.fail []) := { kp := k2, out := Sg.nil _ _, keeps := kk2, newa := fun g h => by simp [vblk] at h, newo := fun g h => by simp [vblk] at h, apart := fun g h => by simp [vblk] at h }
  clear k2 kk2
  go_wp2_with fail
  go_ret
  exact ⟨_, _, rfl, D.out⟩

set_option maxHeartbeats 4000000 in
set_option maxRecDepth 100000 in
theorem told_none (B b : Nat) (vn vw va : Value) (s : KS) (what : Int) (w : World) (hk : Kp w B b vn vw va s) (ho : s.Ok)
    (h1 : ¬ (what = 1 ∧ s.state = 1)) (h2 : ¬ (what = 2 ∧ s.state ≠ 0)) (h3 : ¬ ((what = 3 ∨ what = 4) ∧ s.state = 2 ∧ s.asked ≠ [])) :
    Calls Try.prog 15 #[.pointer (some ⟨b, 0, none⟩), .int .i64 what] w fun e w' => ∃ vo va', e = .returned vo ∧ Did w B b vn vw va w' vo va' s [] := by
  have c4 := hk.blk.cell 4 _ rfl
  have c10 := hk.blk.cell 10 _ rfl
  have D : Hid (Did w B b vn vw va w (.slice none 0 0) va s []) := Did.quiet hk (Keeps.refl _ _)
  have cs : (what = 1 ∧ ((s.state : Int) == 1) = false) ∨ (what = 2 ∧ s.state = 0) ∨ ((what = 3 ∨ what = 4) ∧ ((s.state : Int) == 2) = false) ∨ ((what = 3 ∨ what = 4) ∧ s.state = 2 ∧ s.asked = []) ∨ ((what == 1) = false ∧ (what == 2) = false ∧ (what == 3) = false ∧ (what == 4) = false) := by
    simp only [beq_eq_false_iff_ne]
    by_cases e1 : what = 1
    · exact .inl ⟨e1, by omega⟩
    · by_cases e2 : what = 2
      · exact .inr (.inl ⟨e2, by omega⟩)
      · by_cases e3 : what = 3 ∨ what = 4
        · by_cases e4 : s.state = 2
          · exact .inr (.inr (.inr (.inl ⟨e3, e4, Decidable.byContradiction fun e => h3 ⟨e3, e4, e⟩⟩)))
          · exact .inr (.inr (.inl ⟨e3, by omega⟩))
        · exact .inr (.inr (.inr (.inr ⟨e1, e2, by omega, by omega⟩)))
  have hva := hk.asked
  clear hk ho h1 h2 h3
  rcases cs with ⟨rfl, q⟩ | ⟨rfl, q⟩ | ⟨rfl | rfl, q⟩ | ⟨rfl | rfl, q, q'⟩ | ⟨q1, q2, q3, q4⟩
  · clear hva
    go_enter Try.func15, Try.ntmps15
    go_wp2_with fail
    go_ret
    exact ⟨_, _, rfl, D.out⟩
  · rw [q] at c4
    clear hva q
    go_enter Try.func15, Try.ntmps15
    go_wp2_with fail
    go_ret
    exact ⟨_, _, rfl, D.out⟩
  · clear hva
    go_enter Try.func15, Try.ntmps15
    go_wp2_with fail
    go_ret
    exact ⟨_, _, rfl, D.out⟩
  · clear hva
    go_enter Try.func15, Try.ntmps15
    go_wp2_with fail
    go_ret
    exact ⟨_, _, rfl, D.out⟩
  · obtain ⟨_, ao, cap, hv, _⟩ := hva
    rw [q'] at hv
    have hv' : va = .slice ao 0 cap := hv
    rw [q] at c4
    rw [hv'] at c10
    clear hv hv' q q'
    go_enter Try.func15, Try.ntmps15
    go_wp2_with fail
    go_ret
    exact ⟨_, _, rfl, D.out⟩
  · obtain ⟨_, ao, cap, hv, _⟩ := hva
    rw [q'] at hv
    have hv' : va = .slice ao 0 cap := hv
    rw [q] at c4
    rw [hv'] at c10
    clear hv hv' q q'
    go_enter Try.func15, Try.ntmps15
    go_wp2_with fail
    go_ret
    exact ⟨_, _, rfl, D.out⟩
  · clear hva
    go_enter Try.func15, Try.ntmps15
    go_wp2_with fail
    go_ret
    exact ⟨_, _, rfl, D.out⟩

theorem Kp.tail {w : World} {B b : Nat} {vn vw va va2 : Value} {s : KS} (h : Kp w B b vn vw va s) (l : List Int) (hs : Sg w 1 va2 l.length (zvals l)) (hv : ∀ g, vblk va2 = some g → vblk va = some g) :
    Kp (w.setCell ⟨b, 10, none⟩ va2) B b vn vw va2 { s with asked := l } := by
  have hkb : Keeps (fun k => k = b) w (w.setCell ⟨b, 10, none⟩ va2) := (Keeps.refl _ w).set b 10 _ (fun _ => rfl)
  exact { h with
    blk := h.blk.set 10 va2
    names := h.names.keeps hkb (fun g hg e => h.nb (by rw [hg, e]))
    wants := h.wants.keeps hkb (fun g hg e => h.wb (by rw [hg, e]))
    asked := hs.keeps hkb (fun g hg e => h.ab (by rw [hv g hg, e]))
    ab := fun e => h.ab (hv b e)
    na := fun g hg e => h.na g hg (hv g e)
    wa := fun g hg e => h.wa g hg (hv g e)
    basea := fun g hg => h.basea g (hv g hg) }
theorem Did.tail {w w1 : World} {B b : Nat} {vn vw va va2 : Value} {s s1 : KS} (h : Kp w1 B b vn vw va s1) (hk : Keeps (Kf b vw va) w w1) (l : List Int) (hs : Sg w1 1 va2 l.length (zvals l)) (hv : ∀ g, vblk va2 = some g → vblk va = some g) (e : { s1 with asked := l } = s) :
    Did w B b vn vw va (w1.setCell ⟨b, 10, none⟩ va2) (.slice none 0 0) va2 s [] := by
  subst e
  exact { kp := h.tail l hs hv, out := Sg.nil _ _, keeps := hk.set b 10 _ (fun _ => .inl rfl), newa := fun g hg => .inl (hv g hg), newo := fun g h => by simp [vblk] at h, apart := fun g h => by simp [vblk] at h }

set_option maxHeartbeats 4000000 in
set_option maxRecDepth 100000 in
theorem told_answer (B b : Nat) (vn vw va : Value) (s : KS) (what : Int) (w : World) (hk : Kp w B b vn vw va s) (ho : s.Ok)
    (h1 : what = 3 ∨ what = 4) (q1 : s.state = 2) (h3 : s.asked ≠ []) :
    Calls Try.prog 15 #[.pointer (some ⟨b, 0, none⟩), .int .i64 what] w fun e w' => ∃ vo va', e = .returned vo ∧ Did w B b vn vw va w' vo va' (s.answered (what - 2).toNat) [] := by
  obtain ⟨x, l, hxl⟩ := List.exists_cons_of_ne_nil h3
  have hka := hk.asked
  rw [hxl] at hka
  obtain ⟨g, off, cap, hva, hnc, hcm, hvb, -, hcell, htail⟩ := hka.open (by simp)
  have c4 := hk.blk.cell 4 _ rfl
  have c9 := hk.blk.cell 9 _ rfl
  have c10 := hk.blk.cell 10 _ rfl
  have f10 := hk.blk.free 10
  have hx0 : w.cell? ⟨g, off, none⟩ = some (.int .i64 x) := by have := (hcell 0 (by simp)).1; simpa [zvals] using this
  have hpl := ho.places x (by rw [hxl]; simp)
  have hon := ho.names
  have hoa := ho.asked
  rw [hxl] at hoa
  have hll : l.length ≤ 16 := by simpa using hoa
  rw [q1] at c4
  simp only [List.length_cons, Nat.add_sub_cancel] at hva hnc htail
  have ht : Sg w 1 (if cap = 1 then .slice (some ⟨g, off, none⟩) l.length (cap - 1) else .slice (some ⟨g, off + 1, none⟩) l.length (cap - 1)) l.length (zvals l) := htail
  subst hva
  have HK := Lib.hid hk
  have HXL := Lib.hid hxl
  have HVB := Lib.hid hvb
  have hans : ∀ d, s.answered d = { s with wants := if x = -1 then s.wants else s.wants.set x.toNat d, asked := l } := fun d => by unfold KS.answered; rw [hxl]; rfl
  have HANS := Lib.hid hans
  unfold maxLen at hcm
  have hpos : (0 : Int) < (l.length : Int) + 1 := by omega
  obtain ⟨va2, hva2, hsg2, hvb2, hif⟩ : ∃ va2, (if cap = 1 then Value.slice (some ⟨g, off, none⟩) l.length (cap - 1) else .slice (some ⟨g, off + 1, none⟩) l.length (cap - 1)) = va2 ∧ Sg w 1 va2 l.length (zvals l) ∧ (∀ g', vblk va2 = some g' → vblk (.slice (some ⟨g, off, none⟩) (l.length + 1) cap) = some g') ∧ ((cap = 1 ∧ va2 = .slice (some ⟨g, off, none⟩) l.length 0) ∨ (cap ≠ 1 ∧ va2 = .slice (some ⟨g, off + 1, none⟩) l.length (cap - 1))) := by
    refine ⟨_, rfl, ht, fun g' hg => ?_, ?_⟩
    · rw [hvb]
      by_cases hc1 : cap = 1
      · simp [hc1, vblk] at hg
      · simp only [if_neg hc1, vblk] at hg
        split at hg
        · cases hg
        · exact hg
    · by_cases hc1 : cap = 1
      · exact .inl ⟨hc1, by simp [hc1]⟩
      · exact .inr ⟨hc1, by simp [hc1]⟩
  have SG2 := Lib.hid hsg2
  have VB2 := Lib.hid hvb2
  clear hk ho h3 hka hcell htail ht hxl hvb hans hva2 hsg2 hvb2 hoa q1
  by_cases hxm : x = -1
  · subst hxm
    have D : Hid (∀ d, Did w B b vn vw (.slice (some ⟨g, off, none⟩) (l.length + 1) cap) (w.setCell ⟨b, 10, none⟩ va2) (.slice none 0 0) va2 (s.answered d) []) := fun d => Did.tail HK.out (Keeps.refl _ _) l SG2.out VB2.out (by rw [HANS.out]; rfl)
    rcases hif with ⟨rfl, rfl⟩ | ⟨hc1, rfl⟩
    · obtain rfl : l = [] := List.eq_nil_of_length_eq_zero (by omega)
      rcases h1 with rfl | rfl
      all_goals
        go_enter Try.func15, Try.ntmps15
        go_wp2_with fail
        go_ret
        exact ⟨_, rfl, _, D.out _⟩
    all_goals
      rcases h1 with rfl | rfl
    all_goals
      go_enter Try.func15, Try.ntmps15
      go_wp2_with fail
      go_ret
      exact ⟨_, rfl, _, D.out _⟩
  · obtain ⟨xn, rfl⟩ := Int.eq_ofNat_of_zero_le (show 0 ≤ x by omega)
    have hxn : xn < s.wants.length := by omega
    obtain ⟨gw, ow, cw, hvw, hwc, hwm, hvbw, -, hwcell, -⟩ := HK.out.wants.open (by omega)
    have hw0 := (hwcell xn (by omega)).1
    have fW := (hwcell xn (by omega)).2
    rw [nvals_get _ _ hxn] at hw0
    have hgb : gw ≠ b := fun e => HK.out.wb (by rw [hvbw, e])
    have hwl : (s.wants.length : Int) ≤ 16 ∨ True := .inr trivial
    clear hwl hwcell
    subst hvw
    unfold maxLen at hwm
    obtain ⟨P, hP⟩ : ∃ P : Nat → World → Prop, P = fun (d : Nat) w1 => Kp w1 B b vn (.slice (some ⟨gw, ow, none⟩) s.wants.length cw) (.slice (some ⟨g, off, none⟩) (l.length + 1) cap) { s with wants := s.wants.set xn d } ∧ Keeps (Kf b (.slice (some ⟨gw, ow, none⟩) s.wants.length cw) (.slice (some ⟨g, off, none⟩) (l.length + 1) cap)) w w1 ∧ Sg w1 1 va2 l.length (zvals l) := ⟨_, rfl⟩
    have HP := Lib.hid hP
    clear hP
    have R1 : ∀ d : Nat, Kp (w.setCell ⟨gw, ow + xn, none⟩ (.int .i64 d)) B b vn _ _ { s with wants := s.wants.set xn d } ∧ Keeps (Kf b (.slice (some ⟨gw, ow, none⟩) s.wants.length cw) (.slice (some ⟨g, off, none⟩) (l.length + 1) cap)) w (w.setCell ⟨gw, ow + xn, none⟩ (.int .i64 d)) ∧ Sg (w.setCell ⟨gw, ow + xn, none⟩ (.int .i64 d)) 1 va2 l.length (zvals l) := fun d => by
      have hkk : Keeps (fun k => k = gw) w (w.setCell ⟨gw, ow + xn, none⟩ (.int .i64 (d : Nat))) := (Keeps.refl _ w).set gw _ _ (fun _ => rfl)
      exact ⟨HK.out.want rfl xn d hxn, hkk.mono (fun k _ e => by subst e; exact .inr (.inl hvbw)), SG2.out.keeps hkk (fun g' hg' e => by subst e; exact HK.out.wa _ hvbw (VB2.out _ hg'))⟩
    have RR : Hid (∀ d : Nat, P d (w.setCell ⟨gw, ow + xn, none⟩ (.int .i64 d))) := by rw [HP.out]; exact R1
    have hne1 : (((xn : Nat) : Int) != -1) = true := by simp
    clear R1
    rcases hif with ⟨rfl, rfl⟩ | ⟨hc1, rfl⟩
    · obtain rfl : l = [] := List.eq_nil_of_length_eq_zero (by omega)
      rcases h1 with rfl | rfl
      all_goals
        go_enter Try.func15, Try.ntmps15
        go_upto_region 10 with fail
        first | refine wp_gen (P 1) (RR.out 1) ?_ | refine wp_gen (P 2) (RR.out 2) ?_
        intro w1 hPw
        rw [HP.out] at hPw
        obtain ⟨k1, kk1, sg1⟩ := hPw
        have c10' := k1.blk.cell 10 _ rfl
        have f10' := k1.blk.free 10
        have D := Lib.hid (fun (dd : Nat) e => Did.tail k1 kk1 [] sg1 VB2.out (s := s.answered dd) e)
        clear k1 kk1 sg1 c4 c9 c10 f10 hx0 hw0 fW RR
        go_wp2_with fail
        go_ret
        exact ⟨_, rfl, _, D.out _ (by rw [HANS.out, if_neg hxm]; rfl)⟩
    all_goals
      rcases h1 with rfl | rfl
    all_goals
      go_enter Try.func15, Try.ntmps15
      go_upto_region 10 with fail
      first | refine wp_gen (P 1) (RR.out 1) ?_ | refine wp_gen (P 2) (RR.out 2) ?_
      intro w1 hPw
      rw [HP.out] at hPw
      obtain ⟨k1, kk1, sg1⟩ := hPw
      have c10' := k1.blk.cell 10 _ rfl
      have f10' := k1.blk.free 10
      have D := Lib.hid (fun (dd : Nat) e => Did.tail k1 kk1 l sg1 VB2.out (s := s.answered dd) e)
      clear k1 kk1 sg1 c4 c9 c10 f10 hx0 hw0 fW RR
      go_wp2_with fail
      go_ret
      exact ⟨_, rfl, _, D.out _ (by rw [HANS.out, if_neg hxm]; rfl)⟩
end Go.Proofs.Ytaenfkekdhnakaa
