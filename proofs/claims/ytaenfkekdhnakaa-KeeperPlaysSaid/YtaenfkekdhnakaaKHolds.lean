/-
KeeperHolds, walked.
-/
import Derived.Test.YtaenfkekdhnakaaKHolds0
import Derived.Deep.CutBlock
import Derived.Test.YtaenfkekdhnakaaBlks
namespace Go.Proofs.Ytaenfkekdhnakaa
open Go.RowKit

/-- the law under way: the keeper in blocks of F, its config's block, what is asked -/
structure HR (w wr : World) (cs : List Value) (F : Nat → Prop) (b : Nat) (s : KS) (va : Value) (acts : List (Nat × ByteArray)) : Prop where
  kf : KF wr F b s
  bF : ∀ k, F k → w.heap.size < k ∧ k < wr.heap.size
  bel : Below w.heap.size w wr
  cfg : Blk wr w.heap.size 24 cs
  sg : Sg wr 2 va acts.length (avals acts)
  va : ∀ g, vblk va = some g → w.heap.size < g ∧ ¬ F g
theorem HR.below {w wr wr' : World} {cs : List Value} {F : Nat → Prop} {b : Nat} {s : KS} {va : Value} {acts : List (Nat × ByteArray)} (h : HR w wr cs F b s va acts) (hb : Below wr.heap.size wr wr') : HR w wr' cs F b s va acts :=
  { kf := h.kf.below hb, bF := fun k hk => ⟨(h.bF k hk).1, Nat.lt_of_lt_of_le (h.bF k hk).2 hb.size⟩, bel := h.bel.trans (hb.mono h.bel.size), cfg := h.cfg.below hb h.cfg.lt, sg := h.sg.below hb, va := h.va }
theorem HR.call {w wr wr' : World} {cs : List Value} {F : Nat → Prop} {b : Nat} {s s' : KS} {va vo : Value} {acts l : List (Nat × ByteArray)} (h : HR w wr cs F b s va acts) (ha : Acts wr wr' F b s' vo l) :
    HR w wr' cs (fun k => F k ∨ wr.heap.size ≤ k ∧ k < wr'.heap.size) b s' va acts ∧ Sg wr' 2 vo l.length (avals l) ∧ (∀ g, vblk vo = some g → w.heap.size < g ∧ vblk va ≠ some g) := by
  have hz := h.bel.size
  have hcl := h.cfg.lt
  refine ⟨{ kf := ha.kp, bF := fun k hk => ?_, bel := ?_, cfg := ha.keeps.blk h.cfg (fun e => by have := h.bF _ e; omega), sg := h.sg.keeps ha.keeps (fun g hg => (h.va g hg).2), va := fun g hg => ⟨(h.va g hg).1, fun e => ?_⟩ }, ha.out, fun g hg => ⟨by have := ha.newo g hg; omega, fun e => ?_⟩⟩
  · rcases hk with hk | ⟨hk, hk2⟩
    · exact ⟨(h.bF k hk).1, Nat.lt_of_lt_of_le (h.bF k hk).2 ha.keeps.size⟩
    · omega
  · exact h.bel.trans (ha.keeps.below hz (fun k hk e => by have := h.bF k e; omega))
  · rcases e with e | e
    · exact (h.va g hg).2 e
    · have := h.sg.lt hg; omega
  · have := h.sg.lt e; have := ha.newo g hg; omega
theorem HR.asked {w wr wr' : World} {cs : List Value} {F : Nat → Prop} {b : Nat} {s : KS} {va va' : Value} {acts acts' : List (Nat × ByteArray)} (h : HR w wr cs F b s va acts) (hk : Keeps (fun k => vblk va = some k) wr wr') (hs : Sg wr' 2 va' acts'.length (avals acts'))
    (hv : ∀ g, vblk va' = some g → vblk va = some g ∨ wr.heap.size ≤ g) : HR w wr' cs F b s va' acts' := by
  have hz := h.bel.size
  have hcl := h.cfg.lt
  refine { kf := h.kf.keeps hk (fun k hF e => (h.va k e).2 hF), bF := fun k hk' => ⟨(h.bF k hk').1, Nat.lt_of_lt_of_le (h.bF k hk').2 hk.size⟩, bel := h.bel.trans (hk.below hz (fun k hk' e => by have := h.va k e; omega)), cfg := hk.blk h.cfg (fun e => by have := h.va _ e; omega), sg := hs, va := fun g hg => ?_ }
  rcases hv g hg with h1 | h1
  · exact h.va g h1
  · exact ⟨by omega, fun e => by have := h.bF g e; omega⟩
theorem names_step (s : KS) (c : Int) : (stepK s c).1.names = s.names := by
  unfold stepK KS.tick KS.told
  repeat' split
  all_goals rfl
theorem clock_step (s : KS) (c : Int) : (stepK s c).1.clock ≤ s.clock + 1 := by
  unfold stepK KS.tick KS.told
  repeat' split
  all_goals first | exact Nat.le_refl _ | exact Nat.le_succ _
theorem acts_step {s : KS} (ho : s.Ok) (c : Int) : (stepK s c).2.length ≤ 17 := by
  have hf := ho.few
  unfold stepK KS.tick KS.told
  repeat' split
  all_goals first | (simp; done) | skip
  · have := (askN_len s.pinged (· == 2) s.pinged.names.length).2.2
    have e : s.pinged.names.length = s.names.length := rfl
    simp only [List.length_cons]
    omega
  · have := (askN_len s.entered (fun _ => true) s.entered.names.length).2.2
    have e : s.entered.names.length = s.names.length := rfl
    show (s.entered.askN (fun _ => true) s.entered.names.length).2.2.length ≤ 17
    omega
theorem cfg_len : (Try.prog.info? 24).map (·.size) = some 4 := by kernel_rfl
theorem cfg_one (ao : Option Addr) (n cap : Nat) (f m bt : Int) : ∀ v ∈ [Value.slice ao n cap, .int .i64 f, .int .i64 m, .int .i64 bt], v.oneCell' = true := by
  intro v hv
  simp only [List.mem_cons, List.not_mem_nil, or_false] at hv
  rcases hv with rfl | rfl | rfl | rfl <;> rfl
/-- the numbers of acts that came in -/
def IntAt (w : World) (ao : Option Addr) (n : Nat) (zs : List Int) : Prop := ∀ k, k < n → ∃ b off, ao = some ⟨b, off, none⟩ ∧ w.cell? ⟨b, off + k, none⟩ = some (.int .i64 (zs.getD k 0)) ∧ b < w.heap.size

/-- behind the call: its acts are there, too -/
def Mid (w wx : World) (cs : List Value) (b : Nat) (s : KS) (A : List Nat) (va vo : Value) (l : List (Nat × ByteArray)) : Prop :=
  ∃ (F : Nat → Prop) (acts : List (Nat × ByteArray)), HR w wx cs F b s va acts ∧ acts.map Prod.fst = A ∧ Sg wx 2 vo l.length (avals l) ∧ ∀ g, vblk vo = some g → w.heap.size < g ∧ vblk va ≠ some g
theorem tickH {w wr : World} {cs : List Value} {F : Nat → Prop} {b : Nat} {s : KS} {va : Value} {acts : List (Nat × ByteArray)} {A : List Nat} (h : HR w wr cs F b s va acts) (ha : acts.map Prod.fst = A) (hc : s.clock < 1000000000000) :
    Calls Try.prog 13 #[.pointer (some ⟨b, 0, none⟩)] wr fun e w' => ∃ vo, e = .returned vo ∧ Mid w w' cs b (stepK s 0).1 A va vo (stepK s 0).2 := by
  refine (tickF F b s wr h.kf hc).mono ?_
  rintro e w' ⟨vo, rfl, hd⟩
  obtain ⟨h1, h2, h3⟩ := h.call hd
  exact ⟨vo, rfl, _, acts, h1, ha, h2, h3⟩
theorem toldH {w wr : World} {cs : List Value} {F : Nat → Prop} {b : Nat} {s : KS} {va : Value} {acts : List (Nat × ByteArray)} {A : List Nat} (c : Int) (h0 : c ≠ 0) (h : HR w wr cs F b s va acts) (ha : acts.map Prod.fst = A) :
    Calls Try.prog 15 #[.pointer (some ⟨b, 0, none⟩), .int .i64 c] wr fun e w' => ∃ vo, e = .returned vo ∧ Mid w w' cs b (stepK s c).1 A va vo (stepK s c).2 := by
  refine (toldF F b s c wr h.kf).mono ?_
  rintro e w' ⟨vo, rfl, hd⟩
  obtain ⟨h1, h2, h3⟩ := h.call hd
  have e1 : stepK s c = s.told c := if_neg h0
  rw [e1]
  exact ⟨vo, rfl, _, acts, h1, ha, h2, h3⟩
theorem first_no {s : KS} {x : Hs} {c : Int} (h : ¬ ((c = 3 ∨ c = 4) ∧ x.a ≠ [] ∧ s.state = 2)) : x.first s.state c = x := if_neg h
/-- the first one struck -/
theorem HR.tail {w wr : World} {cs : List Value} {F : Nat → Prop} {b : Nat} {s : KS} {g off cap : Nat} {a : Nat × ByteArray} {l : List (Nat × ByteArray)} (h : HR w wr cs F b s (.slice (some ⟨g, off, none⟩) (l.length + 1) cap) (a :: l)) :
    ∃ va2, HR w wr cs F b s va2 l ∧ ((cap = 1 ∧ va2 = .slice (some ⟨g, off, none⟩) l.length 0) ∨ (cap ≠ 1 ∧ va2 = .slice (some ⟨g, off + 2, none⟩) l.length (cap - 1))) ∧ wr.cell? ⟨g, off, none⟩ = some (.int .i64 (a.1 : Nat)) ∧ l.length + 1 ≤ cap ∧ cap ≤ maxLen := by
  obtain ⟨g', off', cap', hva, hnc, hcm, hvb, -, hcell, htail⟩ := h.sg.open (by simp)
  simp only [List.length_cons, Value.slice.injEq, Option.some.injEq, Addr.mk.injEq, and_true, true_and] at hva
  obtain ⟨⟨rfl, rfl⟩, rfl⟩ := hva
  simp only [List.length_cons, Nat.add_sub_cancel] at hnc htail
  have hx0 : wr.cell? ⟨g, off, none⟩ = some (.int .i64 (a.1 : Nat)) := by have := (hcell 0 (by simp)).1; simpa [avals] using this
  refine ⟨_, h.asked (Keeps.refl _ _) (va' := if cap = 1 then .slice (some ⟨g, off, none⟩) l.length (cap - 1) else .slice (some ⟨g, off + 2, none⟩) l.length (cap - 1)) (acts' := l) htail (fun g' hg => .inl ?_), ?_, hx0, hnc, hcm⟩
  · rw [hvb]
    by_cases hc1 : cap = 1
    · simp [hc1, vblk] at hg
    · simp only [if_neg hc1, vblk] at hg
      split at hg
      · cases hg
      · exact hg
  · by_cases hc1 : cap = 1
    · exact .inl ⟨hc1, by simp [hc1]⟩
    · exact .inr ⟨hc1, by simp [hc1]⟩
def isAsk (k : Nat) : Bool := k == 2 || k == 3
/-- the inner loop: j acts looked at -/
structure IR (w wr : World) (cs : List Value) (F : Nat → Prop) (b : Nat) (s : KS) (A : List Nat) (l : List (Nat × ByteArray)) (bv : Nat) (vcs : List Value) (vo va : Value) (acts : List (Nat × ByteArray)) (j : Nat) : Prop where
  hr : HR w wr cs F b s va acts
  a : acts.map Prod.fst = A ++ ((l.take j).map Prod.fst).filter isAsk
  v : Blk wr bv 47 vcs
  vb : vblk va ≠ some bv
  o : Sg wr 2 vo l.length (avals l)
  ov : ∀ g, vblk vo = some g → vblk va ≠ some g
theorem take_act (l : List (Nat × ByteArray)) (j : Nat) (h : j < l.length) : l.take (j + 1) = l.take j ++ [l.getD j (0, emp)] := by
  rw [List.take_succ_eq_append_getElem h]; simp [h]
theorem IR.skip {w wr wr' : World} {cs : List Value} {F : Nat → Prop} {b : Nat} {s : KS} {A : List Nat} {l : List (Nat × ByteArray)} {bv : Nat} {vcs : List Value} {vo va : Value} {acts : List (Nat × ByteArray)} {j : Nat}
    (h : IR w wr cs F b s A l bv vcs vo va acts j) (hb : Below wr.heap.size wr wr') (hj : j < l.length) (hk : isAsk (l.getD j (0, emp)).1 = false) : IR w wr' cs F b s A l bv vcs vo va acts (j + 1) :=
  { hr := h.hr.below hb, v := h.v.below hb h.v.lt, vb := h.vb, o := h.o.below hb, ov := h.ov, a := by
      rw [take_act l j hj, List.map_append, List.filter_append, List.map_cons, List.map_nil, List.filter_cons, hk, h.a]
      simp }
theorem IR.push {w wr w2 w3 : World} {cs : List Value} {F : Nat → Prop} {b : Nat} {s : KS} {A : List Nat} {l : List (Nat × ByteArray)} {bv : Nat} {vcs : List Value} {vo va va2 : Value} {acts : List (Nat × ByteArray)} {j k : Nat} {nm : ByteArray}
    (h : IR w wr cs F b s A l bv vcs vo va acts j) (hb : Below wr.heap.size wr w2) (hj : j < l.length) (hp : (k, nm) = l.getD j (0, emp)) (hk : isAsk k = true)
    (hs : Sg w3 2 va2 (acts.length + 1) (avals acts ++ [.int .i64 (k : Nat), .string nm])) (hkp : Keeps (fun k => vblk va = some k) w2 w3) (hv : ∀ g, vblk va2 = some g → vblk va = some g ∨ w2.heap.size ≤ g) :
    IR w w3 cs F b s A l bv vcs vo va2 (acts ++ [(k, nm)]) (j + 1) := by
  have e : ∀ m : List (Nat × ByteArray), avals (m ++ [(k, nm)]) = avals m ++ [.int .i64 (k : Nat), .string nm] := by
    intro m
    induction m with
    | nil => rfl
    | cons x r ih => obtain ⟨p, q⟩ := x; simp [avals, ih]
  have hz := hb.size
  have h1 := h.v.lt
  refine { hr := (h.hr.below hb).asked hkp (by rw [e]; simpa using hs) hv, a := ?_, v := hkp.blk (h.v.below hb h1) (fun e => h.vb e), vb := fun e => ?_, o := (h.o.below hb).keeps hkp (fun g hg e => h.ov g hg e), ov := fun g hg e => ?_ }
  · rw [take_act l j hj, ← hp, List.map_append, List.map_append, List.filter_append, List.map_cons, List.map_nil, List.filter_cons, if_pos hk, h.a]
    simp
  · rcases hv _ e with h2 | h2
    · exact h.vb h2
    · omega
  · rcases hv _ e with h2 | h2
    · exact h.ov g hg h2
    · have := h.o.lt hg; omega
theorem newF (names : List ByteArray) (v0 : Value) (f m bt : Int) (w : World) (hs : Sg w 1 v0 names.length (svals names)) (hl : names.length ≤ 1000) :
    Calls Try.prog 10 #[.agg #[v0, .int .i64 f, .int .i64 m, .int .i64 bt]] w fun e w' => ∃ b, e = .returned (.pointer (some ⟨b, 0, none⟩)) ∧ KF w' (fun k => w.heap.size ≤ k ∧ k < w'.heap.size) b (newS names f m bt) ∧ Below w.heap.size w w' := by
  refine (new_ok names v0 f m bt w hs hl).mono ?_
  rintro e w' ⟨b, vn, vw, rfl, hk, hbl, hvn⟩
  refine ⟨b, rfl, ⟨⟨vn, vw, _, { hk with base := Nat.zero_le _, basew := fun _ _ => Nat.zero_le _, basea := fun _ _ => Nat.zero_le _ }, ⟨hk.base, hk.blk.lt⟩, fun g hg => ⟨hvn g hg, hk.names.lt hg⟩, fun g hg => ⟨hk.basew g hg, hk.wants.lt hg⟩, ?_⟩, Ok.new names f m bt⟩, hbl⟩
  intro g hg; simp [vblk] at hg
set_option maxHeartbeats 4000000 in
set_option maxRecDepth 100000 in
theorem holds_ok (ns : List ByteArray) (ao : Option Addr) (n cap : Nat) (f m bt : Int) (zo : Option Addr) (len zcap : Nat) (zs : List Int) (w : World) (hs : StrAt w ao n ns) (hn : n ≤ 9223372036854775807) (hz : IntAt w zo len zs) (hlen : len ≤ 9223372036854775807) :
    Calls Try.prog 6 #[.agg #[.slice ao n cap, .int .i64 f, .int .i64 m, .int .i64 bt], .slice zo len zcap] w fun e w' => e = .returned (.bool true) ∧ Below w.heap.size w w' := by
  have HS := Lib.hid hs
  have HZ := Lib.hid hz
  have B0 := Lib.hid (Blk.new w 24 [.slice ao n cap, .int .i64 f, .int .i64 m, .int .i64 bt])
  have BB0 := below1 w (.cells #[.slice ao n cap, .int .i64 f, .int .i64 m, .int .i64 bt] 24)
  clear hs hz
  go_enter Try.func6, Try.ntmps6
  go_wp2_with fail
  refine (awake_ok _).mono ?_
  rintro e w1 ⟨rfl, b1⟩
  have B1 := Lib.hid (B0.out.below b1 B0.out.lt)
  have BB1 := BB0.trans (b1.mono BB0.size)
  have HS1 := Lib.hid (HS.out.below BB1)
  clear b1 B0 BB0
  go_wp2_with (refine load_blk B1.out Try.underlying24 rfl cfg_len rfl rfl rfl rfl ?_)
  refine (few_ok ns ao n cap f m bt w1 HS1.out hn).mono ?_
  rintro e w2 ⟨al, cl, rfl, sl, nw, b2⟩
  have L5 : Hid (([Value.slice al (fewN ns).length cl, .int .i64 f, .int .i64 m, .int .i64 bt] : List Value).length = 4) := rfl
  have B2 := Lib.hid (B1.out.below b2 B1.out.lt)
  have HL : (fewN ns).length ≤ 18 := by rw [fewN_len]; omega
  have SL := Lib.hid sl
  have B3 := Lib.hid (B2.out.setRow [.slice al (fewN ns).length cl, .int .i64 f, .int .i64 m, .int .i64 bt])
  have hza := B1.out.lt
  have S3 := Lib.hid (sl.same (w' := w2.setRow w.heap.size ([.slice al (fewN ns).length cl, .int .i64 f, .int .i64 m, .int .i64 bt] : List Value).toArray) (by simp) (fun g hg => setRow_other _ _ _ _ (by have := nw g hg; omega)))
  have BB3 := below_row (BB1.trans (b2.mono BB1.size)) w.heap.size ([.slice al (fewN ns).length cl, .int .i64 f, .int .i64 m, .int .i64 bt] : List Value).toArray (Nat.le_refl _)
  clear b2 sl nw SL B1 BB1 HS1
  go_upto_region 4 with (refine store_blk B2.out cfg_len rfl rfl (cfg_one _ _ _ _ _ _) rfl rfl rfl rfl ?_)
  refine wp_gen (fun w3 => Hid (Blk w3 w.heap.size 24 [.slice al (fewN ns).length cl, .int .i64 f, .int .i64 m, .int .i64 bt]) ∧ Hid (Sg w3 1 (.slice al (fewN ns).length cl) (fewN ns).length (svals (fewN ns))) ∧ Below w.heap.size w w3) ⟨B3, S3, BB3⟩ ?_
  rintro w3 ⟨C3, D3, E3⟩
  clear B3 S3 BB3 B2
  go_wp2_with (refine load_blk C3.out Try.underlying24 rfl cfg_len rfl rfl rfl rfl ?_)
  refine (newF (fewN ns) _ f m bt w3 D3.out (by omega)).mono ?_
  rintro e w4 ⟨b, rfl, kf, b4⟩
  have H4 : Hid (HR w w4 [.slice al (fewN ns).length cl, .int .i64 f, .int .i64 m, .int .i64 bt] (fun k => w3.heap.size ≤ k ∧ k < w4.heap.size) b (newS (fewN ns) f m bt) (.slice none 0 0) []) :=
    ⟨kf, fun k hk => ⟨by have := C3.out.lt; omega, hk.2⟩, E3.trans (b4.mono E3.size), C3.out.below b4 C3.out.lt, Sg.nil _ _, fun g hg => by simp [vblk] at hg⟩
  clear kf b4 C3 D3 E3
  obtain ⟨k, hk⟩ : ∃ k, k = (fewN ns).length := ⟨_, rfl⟩
  have HN : Hid ((newS (fewN ns) f m bt).names.length = min k 16) := by
    show ((fewN ns).take 16).length = _
    rw [List.length_take, hk]; omega
  have HV := Lib.hid (HInv.new (fewN ns) f m bt)
  have hc0 : (newS (fewN ns) f m bt).clock ≤ 0 := Nat.le_refl _
  have hs0 : Hid ((newS (fewN ns) f m bt).state = 0) := rfl
  rw [← hk] at H4 HL ⊢
  generalize newS (fewN ns) f m bt = s0 at *
  clear hk
  go_wp2_with fail
  go_loopw [6, 7, 8, 9] (fun v6 v7 v8 v9 wr => ∃ (i : Nat) (F : Nat → Prop) (s : KS) (x : Hs) (acts : List (Nat × ByteArray)), v9 = .int .i64 i ∧ v7 = .int .i64 x.h ∧ v8 = .int .i64 s.state ∧ Hid (HR w wr [.slice al k cl, .int .i64 f, .int .i64 m, .int .i64 bt] F b s v6 acts) ∧ Hid (HInv s x) ∧ Hid (acts.map Prod.fst = x.a) ∧ s.clock ≤ i ∧ Hid (s.names.length = min k 16) ∧ i ≤ 200) (fun _ _ _ v9 _ => 200 - (intOf v9).toNat)
  case atStart => exact ⟨0, _, s0, ⟨[], 0⟩, [], rfl, rfl, by rw [hs0.out]; rfl, H4, HV, rfl, hc0, HN, by omega⟩
  case round =>
    clear H4 HN HV hc0 hs0
    obtain ⟨i, F, s, x, acts, rfl, rfl, rfl, hr, hv, ha, hcl, hnm, hi⟩ := hrel
    by_cases hgo : i < len ∧ i < 200
    · obtain ⟨hg1, hg2⟩ := hgo
      obtain ⟨gb, off, hzo, hcell, hlt⟩ := HZ.out i hg1
      subst hzo
      have cZ : wr.cell? ⟨gb, off + i, none⟩ = some (.int .i64 (zs.getD i 0)) := by
        rw [World.cell?_of_block (w := w) (w' := wr) (a := ⟨gb, off + i, none⟩) (hr.out.bel.block gb hlt)]; exact hcell
      clear hcell
      obtain ⟨c, hc⟩ : ∃ c, c = zs.getD i 0 := ⟨_, rfl⟩
      rw [← hc] at cZ
      clear hc
      have g1 : ((i : Int) < len) = True := eq_true (by omega)
      have g2 : ((i : Int) < 200) = True := eq_true (by omega)
      obtain ⟨a6, c6, rfl⟩ := hr.out.sg.shape
      have hcl2 : s.clock < 1000000000000 := by omega
      go_upto_block 2 with fail
      go_cut [6, 7, 10] (fun v6 v7 v10 wx => v7 = .int .i64 (x.first s.state c).h ∧ Mid w wx [.slice al k cl, .int .i64 f, .int .i64 m, .int .i64 bt] b (stepK s c).1 (x.first s.state c).a v6 v10 (stepK s c).2)
      case first =>
        by_cases h0 : c = 0
        · subst h0
          have e1 : Hid (x.first s.state 0 = x) := first_no (by omega)
          go_wp2_with fail
          refine (tickH hr.out ha.out hcl2).mono ?_
          rintro e w5 ⟨vo, rfl, hm⟩
          go_wp2_with fail
          go_meet
          exact ⟨by rw [e1.out], by rw [e1.out]; exact hm⟩
        · have h0b : (c == 0) = false := by simpa using h0
          by_cases h34 : c = 3 ∨ c = 4
          · rcases acts with _ | ⟨a, l⟩
            · have e1 : Hid (x.first s.state c = x) := first_no (fun h => h.2.1 (by rw [← ha.out]; rfl))
              rcases h34 with rfl | rfl
              all_goals
                go_wp2_with fail
                refine (toldH _ (by omega) hr.out ha.out).mono ?_
                rintro e w5 ⟨vo, rfl, hm⟩
                go_wp2_with fail
                go_meet
                exact ⟨by rw [e1.out], by rw [e1.out]; exact hm⟩
            · by_cases hst : s.state = 2
              · have e1 : Hid (x.first s.state c = { a := x.a.tail, h := if c = 3 ∧ x.a.headD 0 = 2 then x.h + 1 else x.h }) := if_pos ⟨h34, by rw [← ha.out]; simp, hst⟩
                have hsb : (((s.state : Nat) : Int) == 2) = true := by rw [hst]; rfl
                have hpos : (0 : Int) < (l.length : Int) + 1 := by omega
                have hxa : Hid (x.a.headD 0 = a.1) := by rw [← ha.out]; rfl
                have hxt : Hid (l.map Prod.fst = x.a.tail) := by rw [← ha.out]; rfl
                have hxh : x.h ≤ 16 := by have := hv.out.held_le; have := hnm.out; omega
                obtain ⟨g6, o6, _, hva6, _⟩ := hr.out.sg.open (by simp)
                simp only [List.length_cons, Value.slice.injEq] at hva6
                obtain ⟨rfl, _, rfl⟩ := hva6
                obtain ⟨va2, h2, hif, hk0, hnc, hcm⟩ := hr.out.tail
                have HT := Lib.hid h2
                unfold maxLen at hcm
                clear h2 hst
                have hkd : a.1 = 2 ∨ (((a.1 : Nat) : Int) == 2) = false ∧ Hid (a.1 ≠ 2) := by
                  by_cases e : a.1 = 2
                  · exact .inl e
                  · exact .inr ⟨by simp; omega, e⟩
                obtain ⟨ak, an⟩ := a
                simp only at hkd hk0 hxa
                rcases hif with ⟨rfl, rfl⟩ | ⟨hc1, rfl⟩
                · obtain rfl : l = [] := List.eq_nil_of_length_eq_zero (by omega)
                  rcases h34 with rfl | rfl
                  all_goals
                    rcases hkd with rfl | ⟨hkd, hk2⟩
                  all_goals
                    go_wp2_with fail
                    refine (toldH _ (by omega) HT.out hxt.out).mono ?_
                    rintro e w5 ⟨vo, rfl, hm⟩
                    go_wp2_with fail
                    go_meet
                    exact ⟨by rw [e1.out]; simp only [hxa.out]; first | (simp; done) | (simp [hk2.out]; done), by rw [e1.out]; exact hm⟩
                rcases h34 with rfl | rfl
                all_goals
                  rcases hkd with rfl | ⟨hkd, hk2⟩
                all_goals
                  go_wp2_with fail
                  refine (toldH _ (by omega) HT.out hxt.out).mono ?_
                  rintro e w5 ⟨vo, rfl, hm⟩
                  go_wp2_with fail
                  go_meet
                  exact ⟨by rw [e1.out]; simp only [hxa.out]; first | (simp; done) | (simp [hk2.out]; done), by rw [e1.out]; exact hm⟩
              · have e1 : Hid (x.first s.state c = x) := first_no (fun h => hst h.2.2)
                have hsb : (((s.state : Nat) : Int) == 2) = false := by simp; omega
                have hpos : (0 : Int) < (l.length : Int) + 1 := by omega
                rcases h34 with rfl | rfl
                all_goals
                  go_wp2_with fail
                  refine (toldH _ (by omega) hr.out ha.out).mono ?_
                  rintro e w5 ⟨vo, rfl, hm⟩
                  go_wp2_with fail
                  go_meet
                  exact ⟨by rw [e1.out], by rw [e1.out]; exact hm⟩
          · have e1 : Hid (x.first s.state c = x) := first_no (fun h => h34 h.1)
            have h3b : (c == 3) = false := by simp; omega
            have h4b : (c == 4) = false := by simp; omega
            clear h34
            go_wp2_with fail
            refine (toldH _ h0 hr.out ha.out).mono ?_
            rintro e w5 ⟨vo, rfl, hm⟩
            go_wp2_with fail
            go_meet
            exact ⟨by rw [e1.out], by rw [e1.out]; exact hm⟩
      case rest =>
      obtain ⟨rfl, F1, acts1, h1, ha1, hl1, hv1⟩ := hcut
      have HI := HInv.step hv.out c hcl2
      have hq1 := names_step s c
      have hq2 := clock_step s c
      have hq3 := acts_step hv.out.ok c
      have hq4 : (x.first s.state c).a.length ≤ 17 := by
        have h1 := hv.out.asked_len
        have h2 := hv.out.ok.asked
        unfold Hs.first
        split
        · show x.a.tail.length ≤ _; rw [List.length_tail]; omega
        · omega
      have HNM : Hid ((stepK s c).1.names.length = min k 16) := by show _ = _; rw [hq1]; exact hnm.out
      have hcl3 : (stepK s c).1.clock ≤ i + 1 := by omega
      clear hq1 hq2 hr hv ha hnm hcl hcl2
      generalize stepK s c = q at *
      obtain ⟨s1, l1⟩ := q
      generalize x.first s.state c = x1 at *
      dsimp only at h1 hl1 hv1 HI hq3 HNM hcl3
      have H1 := Lib.hid h1
      have HA1 := Lib.hid ha1
      have HV1 := Lib.hid hv1
      have HII := Lib.hid HI
      have HL1 := Lib.hid hl1
      clear h1 ha1 hv1 HI hl1
      go_wp2_with fail
      refine (varsF F1 b s1 _ H1.out.kf).mono ?_
      rintro e w6 ⟨vh, rfl, hvh, hvnew, hb6⟩
      obtain ⟨ah, ch, rfl⟩ := hvh.shape
      unfold vcells
      go_upto_region 25 with fail
      refine wp_gen (fun w7 => Hid (IR w w7 [.slice al k cl, .int .i64 f, .int .i64 m, .int .i64 bt] F1 b s1 x1.a l1 w6.heap.size [.int .i64 s1.state, .int .i64 s1.clock, .int .i64 s1.dueV, .int .i64 s1.fails, .int .i64 s1.asked.length, .slice ah s1.held.length ch] u10 u6 acts1 0)) ?_ ?_
      · have hb7 := (hb6).alloc hb6.size (.cells ([.int .i64 s1.state, .int .i64 s1.clock, .int .i64 s1.dueV, .int .i64 s1.fails, .int .i64 s1.asked.length, .slice ah s1.held.length ch] : List Value).toArray 47)
        exact { hr := H1.out.below hb7, a := by rw [HA1.out]; simp, v := Blk.new _ _ _, vb := fun e => by have := H1.out.sg.lt e; have := hb6.size; omega, o := HL1.out.below hb7, ov := fun g hg => (HV1.out g hg).2 }
      rintro w7 I7
      have L17 : acts1.length ≤ 17 := by have := congrArg List.length HA1.out; simp at this; omega
      clear H1 HA1 HV1 HL1 hvh hvnew hb6
      generalize w6.heap.size = bv at *
      obtain ⟨a10, c10, rfl⟩ := I7.out.o.shape
      go_wp2_with fail
      go_loopw [6, 82] (fun v6 v82 wx => ∃ (j : Nat) (acts2 : List (Nat × ByteArray)), v82 = .int .i64 j ∧ j ≤ l1.length ∧ acts2.length ≤ 17 + j ∧ Hid (IR w wx [.slice al k cl, .int .i64 f, .int .i64 m, .int .i64 bt] F1 b s1 x1.a l1 bv [.int .i64 s1.state, .int .i64 s1.clock, .int .i64 s1.dueV, .int .i64 s1.fails, .int .i64 s1.asked.length, .slice ah s1.held.length ch] (.slice a10 l1.length c10) v6 acts2 j)) (fun _ v82 _ => l1.length - (intOf v82).toNat)
      case atStart => exact ⟨0, acts1, rfl, by omega, by omega, I7⟩
      case round =>
        clear I7 L17
        obtain ⟨j, acts2, rfl, hj, hal, I⟩ := hrel
        by_cases hgj : j < l1.length
        · obtain ⟨go, oo, co, hvo, hnc, hcm, _, hglt, hcell, _⟩ := I.out.o.open (by omega)
          simp only [Value.slice.injEq, true_and] at hvo
          obtain ⟨rfl, rfl⟩ := hvo
          unfold maxLen at hcm
          have a1 := avals_get l1 j hgj
          have c0 := (hcell (j * 2) (by omega)).1
          have c1 := (hcell (j * 2 + 1) (by omega)).1
          rw [a1.1] at c0
          rw [a1.2] at c1
          rw [← Nat.add_assoc] at c1
          obtain ⟨p, hp⟩ : ∃ p, p = l1.getD j (0, emp) := ⟨_, rfl⟩
          rw [← hp] at c0 c1
          have HP := Lib.hid hp
          clear a1 hp hcell
          obtain ⟨kd, nm⟩ := p
          dsimp only at c0 c1
          by_cases hka : isAsk kd = true
          · obtain ⟨j0, hj0, hy0, hy1, hy2⟩ := info_parts actInfo
            have J := Lib.hid hj0
            have J0 := Lib.hid hy0
            have J1 := Lib.hid hy1
            have J2 := Lib.hid hy2
            have HKA := Lib.hid hka
            have BW := Lib.hid (below2 wr (.cells #[.int .i64 (kd : Nat), .string nm] 50) (.cells #[.int .i64 (kd : Nat), .string nm] 50))
            have SO := Lib.hid (I.out.hr.sg.below BW.out)
            have hk23 : kd = 2 ∨ kd = 3 := by unfold isAsk at hka; simpa using hka
            clear hj0 hy0 hy1 hy2 hka
            rcases hk23 with rfl | rfl
            · go_wp2_with (at_builtin; refine wpList_append_sg _ rfl (.tmp 94) (.tmp 96) 36 rfl 50 j0 (.agg #[.int .i64 0, .string ⟨#[]⟩]) 2 24 Try.underlying36 J.out J0.out J1.out J2.out rfl (by decide) u6 _ _ rfl SO.out ⟨wr.heap.size + 1, 0, none⟩ 1 1 [.int .i64 (2 : Nat), .string nm] rfl rfl ?p1 ?p2 (by decide) ?p3 ?p4 ?p5)
              case p1 =>
                have h := lit_cell (wr.alloc (.cells #[.int .i64 (2 : Nat), .string nm] 50)) 50 [.int .i64 (2 : Nat), .string nm]
                rw [show (wr.alloc (.cells #[.int .i64 (2 : Nat), .string nm] 50)).heap.size = wr.heap.size + 1 by simp] at h
                exact h
              case p2 =>
                intro u hu
                simp only [List.mem_cons, List.not_mem_nil, or_false] at hu
                rcases hu with rfl | rfl <;> rfl
              case p3 => unfold maxLen; omega
              case p4 => omega
              case p5 =>
                intro g' off2 cap2 w2 hs2 hv2 hg2 hk2
                have IP := Lib.hid (I.out.push BW.out hgj HP.out HKA.out hs2 hk2 (fun g hg => by rw [hv2] at hg; obtain rfl := Option.some.inj hg; simpa using hg2))
                clear hs2 hv2 hg2 hk2 SO
                go_wp2_with fail
                go_roundw
                case rel => exact ⟨j + 1, _, by go_num, by omega, by rw [List.length_append, List.length_singleton]; omega, IP⟩
                case measure => simp [intOf]; omega
            · go_wp2_with (at_builtin; refine wpList_append_sg _ rfl (.tmp 94) (.tmp 96) 36 rfl 50 j0 (.agg #[.int .i64 0, .string ⟨#[]⟩]) 2 24 Try.underlying36 J.out J0.out J1.out J2.out rfl (by decide) u6 _ _ rfl SO.out ⟨wr.heap.size + 1, 0, none⟩ 1 1 [.int .i64 (3 : Nat), .string nm] rfl rfl ?q1 ?q2 (by decide) ?q3 ?q4 ?q5)
              case q1 =>
                have h := lit_cell (wr.alloc (.cells #[.int .i64 (3 : Nat), .string nm] 50)) 50 [.int .i64 (3 : Nat), .string nm]
                rw [show (wr.alloc (.cells #[.int .i64 (3 : Nat), .string nm] 50)).heap.size = wr.heap.size + 1 by simp] at h
                exact h
              case q2 =>
                intro u hu
                simp only [List.mem_cons, List.not_mem_nil, or_false] at hu
                rcases hu with rfl | rfl <;> rfl
              case q3 => unfold maxLen; omega
              case q4 => omega
              case q5 =>
                intro g' off2 cap2 w2 hs2 hv2 hg2 hk2
                have IP := Lib.hid (I.out.push BW.out hgj HP.out HKA.out hs2 hk2 (fun g hg => by rw [hv2] at hg; obtain rfl := Option.some.inj hg; simpa using hg2))
                clear hs2 hv2 hg2 hk2 SO
                go_wp2_with fail
                go_roundw
                case rel => exact ⟨j + 1, _, by go_num, by omega, by rw [List.length_append, List.length_singleton]; omega, IP⟩
                case measure => simp [intOf]; omega
          · have kb2 : (((kd : Nat) : Int) == 2) = false := by unfold isAsk at hka; simp at hka ⊢; omega
            have kb3 : (((kd : Nat) : Int) == 3) = false := by unfold isAsk at hka; simp at hka ⊢; omega
            have IS := Lib.hid (I.out.skip (below1 wr (.cells #[.int .i64 (kd : Nat), .string nm] 50)) hgj (by rw [← HP.out]; simpa using hka))
            clear hka
            go_wp2_with fail
            go_roundw
            case rel => exact ⟨j + 1, acts2, by go_num, by omega, by omega, IS⟩
            case measure => simp [intOf]; omega
        · obtain rfl : j = l1.length := by omega
          have hA := I.out.a
          rw [List.take_length] at hA
          have HACT := Lib.hid hA
          have v0 := I.out.v.cell 0 _ rfl
          have v4 := I.out.v.cell 4 _ rfl
          have v5 := I.out.v.cell 5 _ rfl
          have k0 := I.out.hr.cfg.cell 0 _ rfl
          obtain ⟨a6', c6', rfl⟩ := I.out.hr.sg.shape
          have g0 : ((l1.length : Int) < l1.length) = False := eq_false (by omega)
          by_cases hst : s1.state = 2
          · have e2 : x1.then (List.map Prod.fst l1) s1.state = { a := x1.a ++ (l1.map Prod.fst).filter isAsk, h := x1.h } := if_pos hst
            have HX := HII.out
            rw [e2] at HX
            have b1 : (((s1.state : Nat) : Int) != 2) = false := by simp; omega
            have b2 : (((s1.asked.length : Nat) : Int) != (acts2.length : Nat)) = false := by
              have h1 := HX.asked_len
              have h2 := congrArg List.length HACT.out
              simp only [List.length_map] at h2
              have h3 : acts2.length = s1.asked.length := by rw [h2]; exact h1
              simp; omega
            have b3 : (((s1.held.length : Nat) : Int) != (x1.h : Nat)) = false := by
              have h1 : x1.h = s1.held.length := HX.h
              simp; omega
            have hle : x1.h ≤ min k 16 := by have h1 := HX.held_le; rw [HNM.out] at h1; exact h1
            have hle1 : x1.h ≤ k := by omega
            have hle2 : x1.h ≤ 16 := by omega
            have HXX := Lib.hid HX
            have HST := Lib.hid hst
            clear hle HX e2 hA hst
            go_wp2_with fail
            go_roundw
            case rel => exact ⟨i + 1, F1, s1, ⟨x1.a ++ (l1.map Prod.fst).filter isAsk, x1.h⟩, acts2, by go_num, rfl, by first | rfl | rw [HST.out], Lib.hid I.out.hr, HXX, HACT, by omega, HNM, by omega⟩
            case measure => simp [intOf]; omega
          · have e2 : x1.then (List.map Prod.fst l1) s1.state = { a := [], h := 0 } := if_neg hst
            have HX := HII.out
            rw [e2] at HX
            have b1 : (((s1.state : Nat) : Int) != 2) = true := by simp; omega
            have b2 : (((s1.asked.length : Nat) : Int) != 0) = false := by
              have h1 := HX.ok.trying hst
              rw [h1]; rfl
            have b3 : (((s1.held.length : Nat) : Int) != 0) = false := by
              have h1 := held_out HX.good hst
              rw [h1]; rfl
            have HXX := Lib.hid HX
            have HRN := Lib.hid (I.out.hr.asked (Keeps.refl _ _) (Sg.nil _ _) (va' := .slice none 0 0) (acts' := []) (fun g hg => by simp [vblk] at hg))
            clear HX e2 hA hst
            go_wp2_with fail
            go_roundw
            case rel => exact ⟨i + 1, F1, s1, _, [], by go_num, rfl, rfl, HRN, HXX, rfl, by omega, HNM, by omega⟩
            case measure => simp [intOf]; omega
    · have hb := hr.out.bel
      rcases Nat.lt_or_ge i len with hq | hq
      all_goals
        go_wp2_with fail
        go_ret
        exact ⟨rfl, hb⟩
end Go.Proofs.Ytaenfkekdhnakaa
