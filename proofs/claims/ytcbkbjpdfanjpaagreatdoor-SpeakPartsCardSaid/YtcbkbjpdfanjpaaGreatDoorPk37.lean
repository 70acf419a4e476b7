/-
message.Parse of a message's bytes. (Printed by tools/mj_gen.py.)
-/
import Derived.Test.YtcbkbjpdfanjpaaGreatDoorPk36
import Derived.Test.YtcbkbjpdfanjpaaGreatDoorPk06
namespace Go.Proofs.YtcbkbjpdfanjpaaGreatDoor
open Go.RowKit
set_option maxRecDepth 100000
namespace Mg
open Spl (sv)
open Wi (IN)
theorem infU : (Tryz.prog.info? 75).map (fun i => (i.zero, i.size, i.bytes)) = some (some (.int .u32 0), 1, 4) := by kernel_rfl
theorem infS : (Tryz.prog.info? 9).map (fun i => (i.zero, i.size, i.bytes)) = some (some (.string ⟨#[]⟩), 1, 16) := by kernel_rfl
theorem infN : (Tryz.prog.info? 42).map (fun i => (i.zero, i.size, i.bytes)) = some (some (.slice none 0 0), 1, 24) := by kernel_rfl
theorem infB : (Tryz.prog.info? 4).map (fun i => (i.zero, i.size, i.bytes)) = some (some (.bool false), 1, 1) := by kernel_rfl
theorem PB.vne {B0 rb mb ib : Nat} {k : Int} {V : Nat → Value} {X : Nat → List Value} {T : Nat → Nat} {n : List (List S)} {w : World} (h : PB B0 rb mb ib k V X T n w) (p : Nat) (h1 : 1 ≤ p) (h4 : p ≤ 4) : vblk (V p) ≠ some mb := fun e => by
  have := (h.sg p h1 h4).2 mb e
  have := h.t0.1
  omega
theorem one_of {x : Value} (h : x.oneCell' = true) : ∀ y ∈ [x], y.oneCell' = true := by
  intro y hy
  rw [List.mem_singleton] at hy
  rw [hy]; exact h
/-- lengths that are left and read -/
theorem PL.lens {W0 : World} {rb mb ib : Nat} {k : Int} {u : List Nat} {s : List S} {n : List (List S)} {b : List Bool} {r : S} {V : Nat → Value} {X : Nat → List Value} {T : Nat → Nat} {np : List (List S)} {u' : List Nat} {s' : List S} {n' : List (List S)} {b' : List Bool} {wx : World}
    (h : PL W0 rb mb ib k u s n b r V X T np u' s' n' b' wx) : (X 1).length ≤ u.length ∧ (X 2).length ≤ s.length ∧ (X 3).length ≤ n.length ∧ (X 4).length ≤ b.length := by
  obtain ⟨pu, e1, e2⟩ := h.x1
  obtain ⟨ps, e3, e4⟩ := h.x2
  obtain ⟨pb, e5, e6⟩ := h.x4
  have e7 := h.x3
  have e8 := h.pb.inl
  refine ⟨?_, ?_, ?_, ?_⟩
  · rw [e1, ← e2]; simp [uv]
  · rw [e3, ← e4]; simp [sv]
  · rw [e8, ← e7]; simp
  · rw [e5, ← e6]; simp [bv]
/-- what a message is at most -/
structure Lim (u : List Nat) (s : List S) (n : List (List S)) (b : List Bool) (ls : S) : Prop where
  fw : Fw s n
  lu : u.length ≤ 20
  lb : b.length ≤ 20
  ub : ∀ x ∈ u, x < 4294967296
  ll : ls.length ≤ 13
theorem PL.left {W0 : World} {rb mb ib : Nat} {k : Int} {u : List Nat} {s : List S} {n : List (List S)} {b : List Bool} {ls r : S} {V : Nat → Value} {X : Nat → List Value} {T : Nat → Nat} {np : List (List S)} {u' : List Nat} {s' : List S} {n' : List (List S)} {b' : List Bool} {wx : World}
    (h : PL W0 rb mb ib k u s n b r V X T np u' s' n' b' wx) (hl : Lim u s n b ls) : (∀ x ∈ u', x < 4294967296) ∧ (∀ x ∈ s', x.length ≤ 100) ∧ (∀ x ∈ n', x.length ≤ 6) ∧ ((Ms.enc r u' s' n' b').length ≤ 400 * r.length) ∧ (X 1).length ≤ 20 ∧ (X 2).length ≤ 20 ∧ (X 3).length ≤ 20 ∧ (X 4).length ≤ 20 := by
  have hL := h.lens
  obtain ⟨pu, e1, e2⟩ := h.x1
  obtain ⟨ps, e3, e4⟩ := h.x2
  have e7 := h.x3
  have h2 : ∀ x ∈ s', x.length ≤ 100 := fun x hx => hl.fw.s.2 x (by rw [← e4]; exact List.mem_append_right _ hx)
  have h3 : ∀ x ∈ n', x.length ≤ 6 := fun x hx => hl.fw.n.2 x (by rw [← e7]; exact List.mem_append_right _ hx)
  refine ⟨fun x hx => hl.ub x (by rw [← e2]; exact List.mem_append_right _ hx), h2, h3, Ms.enc_len r u' s' n' b' h.fit h2 h3, ?_, ?_, ?_, ?_⟩
  · have := hl.lu; omega
  · have := hl.fw.s.1; omega
  · have := hl.fw.n.1; omega
  · have := hl.lb; omega
theorem keeps_row (w : World) (b : Nat) (r : Array Value) : Keeps (fun k => k = b) w (w.setRow b r) := ⟨rfl, rfl, rfl, by simp, fun i _ hn => setRow_other _ _ _ _ hn⟩
/-- the message that was read, laid open -/
theorem PL.done {W0 : World} {rb mb ib : Nat} {k : Int} {u : List Nat} {s : List S} {n : List (List S)} {b : List Bool} {V : Nat → Value} {X : Nat → List Value} {T : Nat → Nat} {np : List (List S)} {u' : List Nat} {s' : List S} {n' : List (List S)} {b' : List Bool} {wx : World}
    (h : PL W0 rb mb ib k u s n b [] V X T np u' s' n' b' wx) : IN wx ib [] ∧ ∃ au aq an ab nu cu ns cs nn cn nb cb, Blk wx mb tM [.int .i64 k, .slice au nu cu, .slice aq ns cs, .slice an nn cn, .slice ab nb cb] ∧ FV (fun g => g = rb) wx u s n b au aq an ab nu cu ns cs nn cn nb cb := by
  obtain ⟨rfl, rfl, rfl, rfl⟩ := Ms.fits_nil h.fit
  obtain ⟨pu, e1, e2⟩ := h.x1
  obtain ⟨ps, e3, e4⟩ := h.x2
  obtain ⟨pb, e5, e6⟩ := h.x4
  have e7 := h.x3
  rw [List.append_nil] at e2 e4 e6 e7
  subst e2 e4 e6 e7
  have hr := h.pb.r0.2.1
  have key : ∀ p, 1 ≤ p → p ≤ 4 → ∃ a c, V p = .slice a (X p).length c ∧ Rs (fun g => g = rb) wx a (X p).length c (X p) := fun p h1 h4 => Rs.of_sg (h.pb.sg p h1 h4).1 (fun g hg e => by
    have := (h.pb.sg p h1 h4).2 g hg
    rw [e] at this
    omega)
  obtain ⟨a1, c1, v1, r1⟩ := key 1 (by decide) (by decide)
  obtain ⟨a2, c2, v2, r2⟩ := key 2 (by decide) (by decide)
  obtain ⟨a3, c3, v3, r3⟩ := key 3 (by decide) (by decide)
  obtain ⟨a4, c4, v4, r4⟩ := key 4 (by decide) (by decide)
  have hb := h.pb.blk
  rw [v1, v2, v3, v4] at hb
  refine ⟨h.inp, _, _, _, _, _, _, _, _, _, _, _, _, hb, ?_, ?_, ⟨X 3, r3, h.pb.inl, fun i x l hx hl => ?_⟩, ?_⟩
  · rw [← e1]; exact r1
  · rw [← e3]; exact r2
  · obtain ⟨a, k', c, e, hrs⟩ := h.pb.inn i x l hx hl
    exact ⟨a, k', c, e, hrs.mono (fun g hg e => by rw [e, hr]; decide)⟩
  · rw [← e5]; exact r4
theorem ret_msg {fn : Func} {R : Ending → World → Prop} {a : Act} {w : World} {p q : Tmp} {b : Nat} {t : TypeId} {cs : List Value} {v : Value} (h : fn.results = #[.cell p tM, .tmp q]) (hb : Blk w b t cs) (hl : cs.length = 5)
    (hp : a.tmps.getD p undef = .pointer (some ⟨b, 0, none⟩)) (hq : a.tmps.getD q undef = v) (hd : a.defers = []) (hR : R (.returned (.tuple #[.agg cs.toArray, v])) w) : bodyPost Tryz.prog fn R .ret a w :=
  ret_ct h hb Tryz.underlying49 rfl msg_size hl hp hq hd hR
def PPost (kn : Nat) (u : List Nat) (s : List S) (n : List (List S)) (b : List Bool) (w : World) (e : Ending) (w' : World) : Prop :=
  (∃ au aq an ab nu cu ns cs nn cn nb cb, e = .returned (.tuple #[.agg #[.int .i64 (kn : Nat), .slice au nu cu, .slice aq ns cs, .slice an nn cn, .slice ab nb cb], .nilIface]) ∧ FV (fun _ => False) w' u s n b au aq an ab nu cu ns cs nn cn nb cb) ∧ Below w.heap.size w w'
theorem sls_one (k : Int) (au aq an ab : Option Addr) (nu cu ns cs nn cn nb cb : Nat) : ∀ v ∈ ([.int .i64 k, .slice au nu cu, .slice aq ns cs, .slice an nn cn, .slice ab nb cb] : List Value), v.oneCell' = true := by
  intro v hv
  simp only [List.mem_cons, List.not_mem_nil, or_false] at hv
  rcases hv with rfl | rfl | rfl | rfl | rfl <;> rfl
set_option maxHeartbeats 32000000 in
theorem parse_ok (kn : Nat) (ls : S) (u : List Nat) (s : List S) (n : List (List S)) (b : List Bool) (w : World) (hR : RowsAt w) (hls : Ms.letters (kn : Nat) = some ls) (hf : Ms.fits ls u s n b) (hlim : Lim u s n b ls) :
    Calls Tryz.prog 15 #[.string (by8 (UInt8.ofNat kn :: Ms.enc ls u s n b))] w fun e w' => PPost kn u s n b w e w' := by
  have hlo := Ms.letters_ok hls
  have hk1 : 1 ≤ kn ∧ kn ≤ 100 := by have h1 := hlo.2.2.2.1; have h2 := hlo.2.2.2.2; omega
  have P := Lib.hid (fun w' (h : RowsAt w') => fields_ok (kn : Nat) ls hls w' h)
  have hel := Ms.enc_len ls u s n b hf hlim.fw.s.2 hlim.fw.n.2
  have hll := hlim.ll
  have CK : Hid (∀ au aq an ab nu cu ns cs nn cn nb cb w', Below w.heap.size w w' → FV (fun _ => False) w' u s n b au aq an ab nu cu ns cs nn cn nb cb → Calls Tryz.prog 33 #[.agg #[.int .i64 (kn : Nat), .slice au nu cu, .slice aq ns cs, .slice an nn cn, .slice ab nb cb]] w' fun e w'' => e = .returned .nilIface ∧ Below w'.heap.size w' w'') := Lib.hid fun au aq an ab nu cu ns cs nn cn nb cb w' hb hv => check_ok _ ls u s n b au aq an ab nu cu ns cs nn cn nb cb w' (hR.below hb) hls hf hlim.fw hv
  obtain ⟨E, hE⟩ : ∃ E, E = Ms.enc ls u s n b := ⟨_, rfl⟩
  have hEl : E.length ≤ 6000 := by rw [hE]; have : 400 * ls.length ≤ 400 * 13 := Nat.mul_le_mul_left _ hll; omega
  have OF := Lib.hid (fun w' => Wi.of_ok (UInt8.ofNat kn :: E) w')
  have BY : Hid (∀ ib w', IN w' ib (UInt8.ofNat kn :: E) → Calls Tryz.prog 50 #[.pointer (some ⟨ib, 0, none⟩)] w' fun e w'' => e = .returned (.int .u8 (kn : Nat)) ∧ IN w'' ib E ∧ Keeps (fun k => k = ib) w' w'') := Lib.hid fun ib w' hi => by
    have := Wi.byte_ok ib (UInt8.ofNat kn) E w' hi (by rw [List.length_cons]; omega)
    rwa [show (UInt8.ofNat kn).toNat = kn by rw [UInt8.toNat_ofNat']; omega] at this
  have HH := Lib.hid (And.intro hR (And.intro hf hlim))
  have HE := Lib.hid hE
  have HSI : Hid (∀ j (h : j < (by8 ls).size), (((by8 ls)[j]'h).toNat : Int) = ((ls.getD j 0).toNat : Nat)) := Lib.hid fun j h => by rw [by_index]; rfl
  obtain ⟨N, hN⟩ : ∃ N, N = ls.length := ⟨_, rfl⟩
  have hsz : (by8 ls).size = N := by rw [by8_size, hN]
  have hN13 : N ≤ 13 := by omega
  have HN := Lib.hid hN
  rw [← hE]
  obtain ⟨iu, ju1, ju2, ju3, ju4⟩ := iparts infU
  obtain ⟨is, js1, js2, js3, js4⟩ := iparts infS
  obtain ⟨ii, jn1, jn2, jn3, jn4⟩ := iparts infN
  obtain ⟨ix, jb1, jb2, jb3, jb4⟩ := iparts infB
  have JU := Lib.hid (And.intro ju1 (And.intro ju2 (And.intro ju3 ju4)))
  have JS := Lib.hid (And.intro js1 (And.intro js2 (And.intro js3 js4)))
  have JN := Lib.hid (And.intro jn1 (And.intro jn2 (And.intro jn3 jn4)))
  have JB := Lib.hid (And.intro jb1 (And.intro jb2 (And.intro jb3 jb4)))
  clear ju1 ju2 ju3 ju4 js1 js2 js3 js4 jn1 jn2 jn3 jn4 jb1 jb2 jb3 jb4
  clear hR hls hf hlim hN hE hlo hel hll
  go_enter Tryz.func15, Tryz.ntmps15
  go_upto_region 1 with fail
  refine wp_gen (fun wx => Blk wx w.heap.size tM zM ∧ Below w.heap.size w wx) ⟨Blk.new w tM zM, below1 _ _⟩ ?_
  rintro w1 ⟨R1, B1⟩
  go_upto_region 2 with (go_at_call 46; refine (OF.out w1).mono ?_; rintro e w2 ⟨rfl, hi2, hb2⟩)
  have R2 := R1.below hb2 R1.lt
  have B2 := B1.trans (hb2.mono B1.size)
  have hib : w.heap.size < w1.heap.size := R1.lt
  have hi2l := hi2.lt
  have BYC := Lib.hid (BY.out w1.heap.size w2 hi2)
  clear R1 B1 hb2 OF BY hi2
  generalize w1.heap.size = ib at *
  go_wp2_with fail
  refine BYC.out.mono ?_
  rintro e w3 ⟨rfl, hi3, hk3⟩
  have R3 := hk3.blk R2 (by omega)
  have B3 := B2.trans (hk3.below B2.size (fun q hq e => by omega))
  have sz3 := hk3.size
  clear R2 B2 hk3 BYC
  have ONE := sls_one (kn : Nat) none none none none 0 0 0 0 0 0 0 0
  go_upto_region 3 with (refine store_blk (n := 5) (cs := [.int .i64 (kn : Nat), .slice none 0 0, .slice none 0 0, .slice none 0 0, .slice none 0 0]) (Blk.new w3 tM zM) msg_size rfl rfl ONE rfl rfl rfl rfl ?_)
  have H4 : Hid (PL w w.heap.size w3.heap.size ib (kn : Nat) u s n b ls (fun _ => .slice none 0 0) (fun _ => []) (fun _ => 0) [] u s n b ((w3.alloc (.cells zM.toArray tM)).setRow w3.heap.size #[.int .i64 (kn : Nat), .slice none 0 0, .slice none 0 0, .slice none 0 0, .slice none 0 0])) := Lib.hid
    ⟨⟨(Blk.new w3 tM zM).setRow _, fun p _ _ => ⟨Sg.nil _ _, fun g hg => by cases hg⟩, ⟨rfl, rfl, by omega, by simp; omega⟩, ⟨(R3.alloc _).farRow (by omega) _, rfl, by omega, by omega⟩, ⟨by omega, by omega, fun p g _ _ hg => by cases hg⟩, rfl, fun i x l hx => by cases hx⟩,
      ⟨[], rfl, rfl⟩, ⟨[], rfl, rfl⟩, rfl, ⟨[], rfl, rfl⟩, HH.out.2.1, by rw [← HE.out]; exact (hi3.alloc _).farRow (by omega) _, below_row (B3.alloc B3.size _) _ _ B3.size⟩
  have hmb : ib < w3.heap.size := by omega
  clear R3 B3 hi3
  generalize w3.heap.size = mb at *
  refine wp_gen (fun wx => Hid (PL w w.heap.size mb ib (kn : Nat) u s n b ls (fun _ => .slice none 0 0) (fun _ => []) (fun _ => 0) [] u s n b wx)) H4 ?_
  clear H4
  intro w4 H4
  have ck := H4.out.pb.blk.cell 0 _ rfl
  go_upto_region 9 with (first | (go_at_call 51; refine (Wi.err_ok ib _ w4 H4.out.inp).mono ?_; rintro e w5 ⟨rfl, rfl⟩) | (go_at_call 34; refine (P.out _ (HH.out.1.below H4.out.bw)).mono ?_; rintro e w5 ⟨rfl, hb5⟩))
  have H5 := Lib.hid (H4.out.below hb5)
  clear H4 hb5 P ck
  go_upto_region 10 with fail
  go_loopw [36] (fun v36 wx => ∃ (i : Nat) (V : Nat → Value) (X : Nat → List Value) (T : Nat → Nat) (np : List (List S)) (u' : List Nat) (s' : List S) (n' : List (List S)) (b' : List Bool), v36 = .int .i64 i ∧ i ≤ N ∧ Hid (PL w w.heap.size mb ib (kn : Nat) u s n b (ls.drop i) V X T np u' s' n' b' wx)) (fun v _ => N - (intOf v).toNat)
  case atStart => exact ⟨0, _, _, _, _, _, _, _, _, rfl, Nat.zero_le _, H5⟩
  case round =>
    obtain ⟨i, V, X, T, np, u', s', n', b', rfl, hi, hr⟩ := hrel
    clear H5
    by_cases hgo : i < N
    · have hk : i < (by8 ls).size := by omega
      have hby := HSI.out i hk
      have hdr : Hid (ls.drop i = ls.getD i 0 :: ls.drop (i + 1)) := Lib.hid (by
        have hil : i < ls.length := by rw [← HN.out]; exact hgo
        rw [List.drop_eq_getElem_cons hil, List.getD_eq_getElem?_getD, List.getElem?_eq_getElem hil]
        rfl)
      have hpl : PL w w.heap.size mb ib (kn : Nat) u s n b (ls.getD i 0 :: ls.drop (i + 1)) V X T np u' s' n' b' wr := by rw [← hdr.out]; exact hr.out
      have hrl : (ls.drop (i + 1)).length ≤ 12 := by rw [List.length_drop, ← HN.out]; omega
      clear hr hdr
      obtain ⟨l1, l2, l3, l4, m1, m2, m3, m4⟩ := hpl.left HH.out.2.2
      rw [List.length_cons] at l4
      generalize ls.getD i 0 = c at *
      obtain ⟨r, hrd⟩ : ∃ r, r = ls.drop (i + 1) := ⟨_, rfl⟩
      rw [← hrd] at hpl hrl l4
      have HRD := Lib.hid hrd.symm
      clear hrd
      have HR2 : Hid (∀ V X T np u' s' n' b' wx, PL w w.heap.size mb ib (kn : Nat) u s n b r V X T np u' s' n' b' wx → Hid (PL w w.heap.size mb ib (kn : Nat) u s n b (ls.drop (i + 1)) V X T np u' s' n' b' wx)) := Lib.hid fun _ _ _ _ _ _ _ _ _ h => Lib.hid (by rw [HRD.out]; exact h)
      by_cases e1 : c = 117
      · subst e1
        have hby1 : (((by8 ls)[i]'hk).toNat : Int) = 117 := hby
        obtain ⟨x, u2, rfl, hf2, hen⟩ := Ms.fits_u hpl.fit
        have hx := l1 x List.mem_cons_self
        have hin := hpl.inp
        have hel := congrArg List.length hen
        rw [List.length_append, Ms.be4_len] at hel
        rw [hen] at hin
        have CALL : Hid (∀ w2, Below wr.drew.heap.size wr.drew w2 → Calls Tryz.prog 47 #[.pointer (some ⟨ib, 0, none⟩)] w2 fun e w3 => e = .returned (.int .u32 (x : Nat)) ∧ QL w w.heap.size mb ib (kn : Nat) V X T np (Ms.enc r u2 s' n' b') w3 ∧ Keeps (fun q => q = ib) w2 w3) := Lib.hid fun w2 h2 => by
          have B2 : Below wr.heap.size wr w2 := Rw.trans (below_drewN (Below.refl wr.heap.size wr) 1) h2
          refine (Wi.u32_ok ib x _ w2 (hin.below B2 hin.lt) hx (by omega)).mono ?_
          rintro e w3 ⟨rfl, hi3, hk3⟩
          exact ⟨rfl, (hpl.below B2).call hi3 hk3, hk3⟩
        have FIN := Lib.hid (fun w4 w5 w6 v' h4 hs hv hk h6 => hpl.pushU (w4 := w4) (w5 := w5) (w6 := w6) (v' := v') hf2 h4 hs hv hk h6)
        clear hel hx
        have C1 : Hid (∀ w', Keeps (fun q => q = ib ∨ vblk (V 1) = some q) wr.drew w' → w'.cell? ⟨mb, 1, none⟩ = some (V 1)) := Lib.hid fun w' hw' => (hw'.blk (show Blk wr.drew mb tM _ from hpl.pb.blk) (fun e => e.elim hpl.pb.t0.2.2.1 (hpl.pb.vne 1 (by decide) (by decide)))).cell 1 _ rfl
        have HPL := Lib.hid hpl
        clear hby hpl hf2 hen l1 l2 l3 l4 hin
        go_upto_region 14 with fail
        (refine Pq.wp_region_plan (fun q => q = ib ∨ vblk (V 1) = some q) 7 [(true, 0), (true, 1), (true, 2), (false, 3), (false, 4), (false, 5), (true, 6), (false, 7)] (by kernel_rfl) (by kernel_rfl) ?_)
        (refine Pq.plan_head (i := 0) rfl (fun K hK => ?_); refine Pq.plan_plain (.pointer (some ⟨mb, 1, none⟩)) (by first | rfl | simp [Region.wanted, yielded]) (fun w' hw' => by go_simp) ?_; go_simp; (with_reducible apply hK); clear hK K)
        (refine Pq.plan_head (i := 1) rfl (fun K hK => ?_); refine Pq.plan_plain (V 1) (by first | rfl | simp [Region.wanted, yielded]) (fun w' hw' => by have e := C1.out _ hw'; go_simp; try simp [e]) ?_; go_simp; (with_reducible apply hK); clear hK K)
        (refine Pq.plan_head (i := 2) rfl (fun K hK => ?_); refine Pq.plan_plain (.pointer (some ⟨ib, 0, none⟩)) (by first | rfl | simp [Region.wanted, yielded]) (fun w' hw' => by go_simp) ?_; go_simp; (with_reducible apply hK); clear hK K)
        refine Pq.plan_sole (i := 3) rfl (fun w3 h2 Q2 hQ2 => ?_)
        go_wp2_with (go_at_call 47; refine (CALL.out w3 h2).mono ?_; rintro e w4 ⟨rfl, q4, hk4⟩)
        have K4 := Lib.hid (((Keeps.refl (fun q => q = ib ∨ vblk (V 1) = some q) wr.drew).rw h2).trans (hk4.mono (fun _ _ e => .inl e)) (fun _ _ e => e))
        have Q4 := Lib.hid q4
        clear q4 hk4 h2 CALL
        refine hQ2 _ _ K4.out ?_
        clear hQ2 Q2
        refine Pq.plan_sole (i := 4) rfl (fun w5 h5 Q5 hQ5 => ?_)
        have K6 := Lib.hid ((K4.out.rw h5).alloc (.cells #[.int .u32 (x : Nat)] 75))
        have Q6 := Lib.hid ((Q4.out.below h5).below (below1 w5 (.cells #[.int .u32 (x : Nat)] 75)))
        have L6 := Lib.hid (lit_one w5 75 (.int .u32 (x : Nat)))
        clear K4 Q4 h5
        go_wp2_with fail
        refine hQ5 _ _ K6.out ?_
        clear hQ5 Q5
        generalize hw6 : w5.alloc _ = w6 at *
        clear hw6
        generalize w5.heap.size = g5 at *
        refine Pq.plan_sole (i := 5) rfl (fun w7 h7 Q7 hQ7 => ?_)
        have K7 := Lib.hid (K6.out.rw h7)
        have Q7' := Lib.hid (Q6.out.below h7)
        have L7 := Lib.hid (L6.out.below h7)
        have SV := Lib.hid ((Q7'.out.pb.sg 1 (by decide) (by decide)).1)
        have b1 : (X 1).length + 1 ≤ maxLen := by unfold maxLen; omega
        have b2 : ((X 1).length + 1) * 4 ≤ 140737488355328 := by omega
        have HBB := Lib.hid (And.intro b1 b2)
        clear K6 Q6 L6 h7 b1 b2
        go_simp
        refine wpList_append_any _ rfl (.tmp 45) (.tmp 48) 41 rfl 75 iu (.int .u32 0) 1 4 Tryz.underlying41 JU.out.1 JU.out.2.1 JU.out.2.2.1 JU.out.2.2.2 rfl (by decide) (V 1) (X 1).length (X 1) rfl SV.out (.slice (some ⟨g5, 0, none⟩) 1 1) 1 [.int .u32 (x : Nat)] rfl L7.out (one_of rfl) HBB.out.1 HBB.out.2 ?grow
        case grow =>
          intro v' w8 hs8 hv8 hk8
          obtain ⟨ao', cp', hv'⟩ : ∃ ao cp, v' = .slice ao ((X 1).length + 1) cp := let ⟨_, ao, cp, h, _⟩ := hs8; ⟨ao, cp, h⟩
          subst hv'
          have K8 := Lib.hid (K7.out.trans (hk8.mono (fun _ _ e => .inr e)) (fun _ _ e => e))
          have HG := Lib.hid (fun wz (hz : Below w8.heap.size w8 wz) => FIN.out w7 w8 wz _ Q7'.out hs8 hv8 hk8 hz)
          have CC : Hid (∀ wz, Below w8.heap.size w8 wz → wz.cell? ⟨mb, 1, none⟩ = some (V 1) ∧ wz.frozen? ⟨mb, 1, none⟩ = false) := Lib.hid fun wz hz => by
            have B := (hk8.blk Q7'.out.pb.blk (Q7'.out.pb.vne 1 (by decide) (by decide)))
            have B' := B.below hz B.lt
            exact ⟨B'.cell 1 _ rfl, B'.free 1⟩
          clear hs8 hv8 hk8 SV K7 L7 Q7' FIN
          go_wp2_with fail
          refine hQ7 _ _ K8.out ?_
          clear hQ7 Q7 K8 C1
          (refine Pq.plan_head (i := 6) rfl (fun K hK => ?_); refine Pq.plan_plain (.pointer (some ⟨mb, 1, none⟩)) (by first | rfl | simp [Region.wanted, yielded]) (fun w' hw' => by go_simp) ?_; go_simp; (with_reducible apply hK); clear hK K)
          refine Pq.plan_last rfl (fun wc hc Qc hQc => ?_)
          have cc := (CC.out wc hc).1
          have cf := (CC.out wc hc).2
          have HH2 := Lib.hid (HG.out wc hc)
          clear hc HG CC
          go_wp2_with fail
          intro wd hd
          have HD := Lib.hid (HH2.out.below hd)
          clear HH2 cc cf hd
          go_wp2_with fail
          go_roundw
          case rel => exact ⟨i + 1, _, _, _, _, _, _, _, _, by go_num, by omega, HR2.out _ _ _ _ _ _ _ _ _ HD.out⟩
          case measure => simp [intOf]; omega
      by_cases e2 : c = 98
      · subst e2
        have hby1 : (((by8 ls)[i]'hk).toNat : Int) = 98 := hby
        obtain ⟨x, b2, rfl, hf2, hen⟩ := Ms.fits_b hpl.fit
        have hin := hpl.inp
        have hel := congrArg List.length hen
        rw [List.length_cons] at hel
        rw [hen] at hin
        have CALL : Hid (∀ w2, Below wr.drew.heap.size wr.drew w2 → Calls Tryz.prog 52 #[.pointer (some ⟨ib, 0, none⟩)] w2 fun e w3 => e = .returned (.bool x) ∧ QL w w.heap.size mb ib (kn : Nat) V X T np (Ms.enc r u' s' n' b2) w3 ∧ Keeps (fun q => q = ib) w2 w3) := Lib.hid fun w2 h2 => by
          have B2 : Below wr.heap.size wr w2 := Rw.trans (below_drewN (Below.refl wr.heap.size wr) 1) h2
          refine (Wi.bool_ok ib x _ w2 (hin.below B2 hin.lt) (by omega)).mono ?_
          rintro e w3 ⟨rfl, hi3, hk3⟩
          exact ⟨rfl, (hpl.below B2).call hi3 hk3, hk3⟩
        have FIN := Lib.hid (fun w4 w5 w6 v' h4 hs hv hk h6 => hpl.pushB (w4 := w4) (w5 := w5) (w6 := w6) (v' := v') hf2 h4 hs hv hk h6)
        clear hel e1
        have C1 : Hid (∀ w', Keeps (fun q => q = ib ∨ vblk (V 4) = some q) wr.drew w' → w'.cell? ⟨mb, 4, none⟩ = some (V 4)) := Lib.hid fun w' hw' => (hw'.blk (show Blk wr.drew mb tM _ from hpl.pb.blk) (fun e => e.elim hpl.pb.t0.2.2.1 (hpl.pb.vne 4 (by decide) (by decide)))).cell 4 _ rfl
        have HPL := Lib.hid hpl
        clear hby hpl hf2 hen l1 l2 l3 l4 hin
        go_upto_region 16 with fail
        (refine Pq.wp_region_plan (fun q => q = ib ∨ vblk (V 4) = some q) 7 [(true, 0), (true, 1), (true, 2), (false, 3), (false, 4), (false, 5), (true, 6), (false, 7)] (by kernel_rfl) (by kernel_rfl) ?_)
        (refine Pq.plan_head (i := 0) rfl (fun K hK => ?_); refine Pq.plan_plain (.pointer (some ⟨mb, 4, none⟩)) (by first | rfl | simp [Region.wanted, yielded]) (fun w' hw' => by go_simp) ?_; go_simp; (with_reducible apply hK); clear hK K)
        (refine Pq.plan_head (i := 1) rfl (fun K hK => ?_); refine Pq.plan_plain (V 4) (by first | rfl | simp [Region.wanted, yielded]) (fun w' hw' => by have e := C1.out _ hw'; go_simp; try simp [e]) ?_; go_simp; (with_reducible apply hK); clear hK K)
        (refine Pq.plan_head (i := 2) rfl (fun K hK => ?_); refine Pq.plan_plain (.pointer (some ⟨ib, 0, none⟩)) (by first | rfl | simp [Region.wanted, yielded]) (fun w' hw' => by go_simp) ?_; go_simp; (with_reducible apply hK); clear hK K)
        refine Pq.plan_sole (i := 3) rfl (fun w3 h2 Q2 hQ2 => ?_)
        go_wp2_with (go_at_call 52; refine (CALL.out w3 h2).mono ?_; rintro e w4 ⟨rfl, q4, hk4⟩)
        have K4 := Lib.hid (((Keeps.refl (fun q => q = ib ∨ vblk (V 4) = some q) wr.drew).rw h2).trans (hk4.mono (fun _ _ e => .inl e)) (fun _ _ e => e))
        have Q4 := Lib.hid q4
        clear q4 hk4 h2 CALL
        refine hQ2 _ _ K4.out ?_
        clear hQ2 Q2
        refine Pq.plan_sole (i := 4) rfl (fun w5 h5 Q5 hQ5 => ?_)
        have K6 := Lib.hid ((K4.out.rw h5).alloc (.cells #[.bool x] 4))
        have Q6 := Lib.hid ((Q4.out.below h5).below (below1 w5 (.cells #[.bool x] 4)))
        have L6 := Lib.hid (lit_one w5 4 (.bool x))
        clear K4 Q4 h5
        go_wp2_with fail
        refine hQ5 _ _ K6.out ?_
        clear hQ5 Q5
        generalize hw6 : w5.alloc _ = w6 at *
        clear hw6
        generalize w5.heap.size = g5 at *
        refine Pq.plan_sole (i := 5) rfl (fun w7 h7 Q7 hQ7 => ?_)
        have K7 := Lib.hid (K6.out.rw h7)
        have Q7' := Lib.hid (Q6.out.below h7)
        have L7 := Lib.hid (L6.out.below h7)
        have SV := Lib.hid ((Q7'.out.pb.sg 4 (by decide) (by decide)).1)
        have b1 : (X 4).length + 1 ≤ maxLen := by unfold maxLen; omega
        have b2 : ((X 4).length + 1) * 1 ≤ 140737488355328 := by omega
        have HBB := Lib.hid (And.intro b1 b2)
        clear K6 Q6 L6 h7 b1 b2
        go_simp
        refine wpList_append_any _ rfl (.tmp 54) (.tmp 57) 44 rfl 4 ix (.bool false) 1 1 Tryz.underlying44 JB.out.1 JB.out.2.1 JB.out.2.2.1 JB.out.2.2.2 rfl (by decide) (V 4) (X 4).length (X 4) rfl SV.out (.slice (some ⟨g5, 0, none⟩) 1 1) 1 [.bool x] rfl L7.out (one_of rfl) HBB.out.1 HBB.out.2 ?grow
        case grow =>
          intro v' w8 hs8 hv8 hk8
          obtain ⟨ao', cp', hv'⟩ : ∃ ao cp, v' = .slice ao ((X 4).length + 1) cp := let ⟨_, ao, cp, h, _⟩ := hs8; ⟨ao, cp, h⟩
          subst hv'
          have K8 := Lib.hid (K7.out.trans (hk8.mono (fun _ _ e => .inr e)) (fun _ _ e => e))
          have HG := Lib.hid (fun wz (hz : Below w8.heap.size w8 wz) => FIN.out w7 w8 wz _ Q7'.out hs8 hv8 hk8 hz)
          have CC : Hid (∀ wz, Below w8.heap.size w8 wz → wz.cell? ⟨mb, 4, none⟩ = some (V 4) ∧ wz.frozen? ⟨mb, 4, none⟩ = false) := Lib.hid fun wz hz => by
            have B := (hk8.blk Q7'.out.pb.blk (Q7'.out.pb.vne 4 (by decide) (by decide)))
            have B' := B.below hz B.lt
            exact ⟨B'.cell 4 _ rfl, B'.free 4⟩
          clear hs8 hv8 hk8 SV K7 L7 Q7' FIN
          go_wp2_with fail
          refine hQ7 _ _ K8.out ?_
          clear hQ7 Q7 K8 C1
          (refine Pq.plan_head (i := 6) rfl (fun K hK => ?_); refine Pq.plan_plain (.pointer (some ⟨mb, 4, none⟩)) (by first | rfl | simp [Region.wanted, yielded]) (fun w' hw' => by go_simp) ?_; go_simp; (with_reducible apply hK); clear hK K)
          refine Pq.plan_last rfl (fun wc hc Qc hQc => ?_)
          have cc := (CC.out wc hc).1
          have cf := (CC.out wc hc).2
          have HH2 := Lib.hid (HG.out wc hc)
          clear hc HG CC
          go_wp2_with fail
          intro wd hd
          have HD := Lib.hid (HH2.out.below hd)
          clear HH2 cc cf hd
          go_wp2_with fail
          go_roundw
          case rel => exact ⟨i + 1, _, _, _, _, _, _, _, _, by go_num, by omega, HR2.out _ _ _ _ _ _ _ _ _ HD.out⟩
          case measure => simp [intOf]; omega
      by_cases e3 : c = 110
      · subst e3
        have hby1 : (((by8 ls)[i]'hk).toNat : Int) = 110 := hby
        obtain ⟨x, n2, rfl, hnm, hf2, hen⟩ := Ms.fits_n hpl.fit
        have hx6 := l3 x List.mem_cons_self
        have hin := hpl.inp
        have hel := congrArg List.length hen
        rw [List.length_append] at hel
        rw [hen] at hin
        have CALL : Hid (∀ w2, Below wr.drew.heap.size wr.drew w2 → Calls Tryz.prog 54 #[.pointer (some ⟨ib, 0, none⟩)] w2 fun e w3 => (∃ a k' c, e = .returned (.slice a k' c) ∧ ∃ T5, QL w w.heap.size mb ib (kn : Nat) V X T5 np (Ms.enc r u' s' n2 b') w3 ∧ Rs (fun g => T5 g ≠ 5) w3 a k' c (sv x)) ∧ Keeps (fun q => q = ib) w2 w3) := Lib.hid fun w2 h2 => by
          have B2 : Below wr.heap.size wr w2 := Rw.trans (below_drewN (Below.refl wr.heap.size wr) 1) h2
          refine (wnames_ok ib x _ w2 (hin.below B2 hin.lt) hnm hx6 (by omega)).mono ?_
          rintro e w3 ⟨⟨a, k', c, rfl, hx3⟩, hi3, hk3⟩
          have := (hpl.below B2).calln hi3 hk3 hx3
          exact ⟨⟨a, k', c, rfl, _, this.1, this.2⟩, hk3⟩
        have FIN := Lib.hid (fun T5 a k' c' w4 w5 w6 v' h4 hx hs hv hk h6 => hpl.pushN (T5 := T5) (a := a) (k' := k') (c' := c') (w4 := w4) (w5 := w5) (w6 := w6) (v' := v') hf2 h4 hx hs hv hk h6)
        clear hel hx6 hnm e1 e2
        have C1 : Hid (∀ w', Keeps (fun q => q = ib ∨ vblk (V 3) = some q) wr.drew w' → w'.cell? ⟨mb, 3, none⟩ = some (V 3)) := Lib.hid fun w' hw' => (hw'.blk (show Blk wr.drew mb tM _ from hpl.pb.blk) (fun e => e.elim hpl.pb.t0.2.2.1 (hpl.pb.vne 3 (by decide) (by decide)))).cell 3 _ rfl
        have HPL := Lib.hid hpl
        clear hby hpl hf2 hen l1 l2 l3 l4 hin
        go_upto_region 20 with fail
        (refine Pq.wp_region_plan (fun q => q = ib ∨ vblk (V 3) = some q) 7 [(true, 0), (true, 1), (true, 2), (false, 3), (false, 4), (false, 5), (true, 6), (false, 7)] (by kernel_rfl) (by kernel_rfl) ?_)
        (refine Pq.plan_head (i := 0) rfl (fun K hK => ?_); refine Pq.plan_plain (.pointer (some ⟨mb, 3, none⟩)) (by first | rfl | simp [Region.wanted, yielded]) (fun w' hw' => by go_simp) ?_; go_simp; (with_reducible apply hK); clear hK K)
        (refine Pq.plan_head (i := 1) rfl (fun K hK => ?_); refine Pq.plan_plain (V 3) (by first | rfl | simp [Region.wanted, yielded]) (fun w' hw' => by have e := C1.out _ hw'; go_simp; try simp [e]) ?_; go_simp; (with_reducible apply hK); clear hK K)
        (refine Pq.plan_head (i := 2) rfl (fun K hK => ?_); refine Pq.plan_plain (.pointer (some ⟨ib, 0, none⟩)) (by first | rfl | simp [Region.wanted, yielded]) (fun w' hw' => by go_simp) ?_; go_simp; (with_reducible apply hK); clear hK K)
        refine Pq.plan_sole (i := 3) rfl (fun w3 h2 Q2 hQ2 => ?_)
        go_wp2_with (go_at_call 54; refine (CALL.out w3 h2).mono ?_; rintro e w4 ⟨⟨a4, k4, c4, rfl, T5, q4, hx4⟩, hk4⟩)
        have X4 := Lib.hid hx4
        clear hx4
        have K4 := Lib.hid (((Keeps.refl (fun q => q = ib ∨ vblk (V 3) = some q) wr.drew).rw h2).trans (hk4.mono (fun _ _ e => .inl e)) (fun _ _ e => e))
        have Q4 := Lib.hid q4
        clear q4 hk4 h2 CALL
        refine hQ2 _ _ K4.out ?_
        clear hQ2 Q2
        refine Pq.plan_sole (i := 4) rfl (fun w5 h5 Q5 hQ5 => ?_)
        have K6 := Lib.hid ((K4.out.rw h5).alloc (.cells #[.slice a4 k4 c4] 42))
        have Q6 := Lib.hid ((Q4.out.below h5).below (below1 w5 (.cells #[.slice a4 k4 c4] 42)))
        have L6 := Lib.hid (lit_one w5 42 (.slice a4 k4 c4))
        have X6 := Lib.hid ((X4.out.below h5).below (below1 w5 (.cells #[.slice a4 k4 c4] 42)))
        clear X4
        clear K4 Q4 h5
        go_wp2_with fail
        refine hQ5 _ _ K6.out ?_
        clear hQ5 Q5
        generalize hw6 : w5.alloc _ = w6 at *
        clear hw6
        generalize w5.heap.size = g5 at *
        refine Pq.plan_sole (i := 5) rfl (fun w7 h7 Q7 hQ7 => ?_)
        have K7 := Lib.hid (K6.out.rw h7)
        have Q7' := Lib.hid (Q6.out.below h7)
        have L7 := Lib.hid (L6.out.below h7)
        have X7 := Lib.hid (X6.out.below h7)
        clear X6
        have SV := Lib.hid ((Q7'.out.pb.sg 3 (by decide) (by decide)).1)
        have b1 : (X 3).length + 1 ≤ maxLen := by unfold maxLen; omega
        have b2 : ((X 3).length + 1) * 24 ≤ 140737488355328 := by omega
        have HBB := Lib.hid (And.intro b1 b2)
        clear K6 Q6 L6 h7 b1 b2
        go_simp
        refine wpList_append_any _ rfl (.tmp 72) (.tmp 75) 43 rfl 42 ii (.slice none 0 0) 1 24 Tryz.underlying43 JN.out.1 JN.out.2.1 JN.out.2.2.1 JN.out.2.2.2 rfl (by decide) (V 3) (X 3).length (X 3) rfl SV.out (.slice (some ⟨g5, 0, none⟩) 1 1) 1 [.slice a4 k4 c4] rfl L7.out (one_of rfl) HBB.out.1 HBB.out.2 ?grow
        case grow =>
          intro v' w8 hs8 hv8 hk8
          obtain ⟨ao', cp', hv'⟩ : ∃ ao cp, v' = .slice ao ((X 3).length + 1) cp := let ⟨_, ao, cp, h, _⟩ := hs8; ⟨ao, cp, h⟩
          subst hv'
          have K8 := Lib.hid (K7.out.trans (hk8.mono (fun _ _ e => .inr e)) (fun _ _ e => e))
          have HG := Lib.hid (fun wz (hz : Below w8.heap.size w8 wz) => FIN.out _ _ _ _ w7 w8 wz _ Q7'.out X7.out hs8 hv8 hk8 hz)
          have CC : Hid (∀ wz, Below w8.heap.size w8 wz → wz.cell? ⟨mb, 3, none⟩ = some (V 3) ∧ wz.frozen? ⟨mb, 3, none⟩ = false) := Lib.hid fun wz hz => by
            have B := (hk8.blk Q7'.out.pb.blk (Q7'.out.pb.vne 3 (by decide) (by decide)))
            have B' := B.below hz B.lt
            exact ⟨B'.cell 3 _ rfl, B'.free 3⟩
          clear hs8 hv8 hk8 SV K7 L7 Q7' FIN
          go_wp2_with fail
          refine hQ7 _ _ K8.out ?_
          clear hQ7 Q7 K8 C1
          (refine Pq.plan_head (i := 6) rfl (fun K hK => ?_); refine Pq.plan_plain (.pointer (some ⟨mb, 3, none⟩)) (by first | rfl | simp [Region.wanted, yielded]) (fun w' hw' => by go_simp) ?_; go_simp; (with_reducible apply hK); clear hK K)
          refine Pq.plan_last rfl (fun wc hc Qc hQc => ?_)
          have cc := (CC.out wc hc).1
          have cf := (CC.out wc hc).2
          have HH2 := Lib.hid (HG.out wc hc)
          clear hc HG CC
          go_wp2_with fail
          intro wd hd
          have HD := Lib.hid (HH2.out.below hd)
          clear HH2 cc cf hd
          go_wp2_with fail
          go_roundw
          case rel => exact ⟨i + 1, _, _, _, _, _, _, _, _, by go_num, by omega, HR2.out _ _ _ _ _ _ _ _ _ HD.out⟩
          case measure => simp [intOf]; omega
      obtain ⟨hcc, x, s2, rfl, h16, hf2, hen⟩ := Ms.fits_s hpl.fit e1 e3 e2
      have hx100 := l2 x List.mem_cons_self
      have hin := hpl.inp
      have FIN := Lib.hid (fun w4 w5 w6 v' h4 hs hv hk h6 => hpl.pushS (w4 := w4) (w5 := w5) (w6 := w6) (v' := v') hf2 h4 hs hv hk h6)
      rcases hcc with rfl | rfl | ⟨rfl, hr0⟩
      · have hby1 : (((by8 ls)[i]'hk).toNat : Int) = 115 := hby
        have hel := congrArg List.length hen
        rw [List.length_append] at hel
        rw [hen] at hin
        have CALL : Hid (∀ w2, Below wr.drew.heap.size wr.drew w2 → Calls Tryz.prog 53 #[.pointer (some ⟨ib, 0, none⟩), .int .i64 32768] w2 fun e w3 => e = .returned (.string (by8 x)) ∧ QL w w.heap.size mb ib (kn : Nat) V X T np (Ms.enc r u' s2 n' b') w3 ∧ Keeps (fun q => q = ib) w2 w3) := Lib.hid fun w2 h2 => by
          have B2 : Below wr.heap.size wr w2 := Rw.trans (below_drewN (Below.refl wr.heap.size wr) 1) h2
          refine (Wi.text_ok ib x _ 32768 w2 (hin.below B2 hin.lt) (by omega) (by decide) (by omega)).mono ?_
          rintro e w3 ⟨rfl, hi3, hk3⟩
          exact ⟨rfl, (hpl.below B2).call hi3 hk3, hk3⟩
        clear hel hx100 h16 e1 e2 e3
        have C1 : Hid (∀ w', Keeps (fun q => q = ib ∨ vblk (V 2) = some q) wr.drew w' → w'.cell? ⟨mb, 2, none⟩ = some (V 2)) := Lib.hid fun w' hw' => (hw'.blk (show Blk wr.drew mb tM _ from hpl.pb.blk) (fun e => e.elim hpl.pb.t0.2.2.1 (hpl.pb.vne 2 (by decide) (by decide)))).cell 2 _ rfl
        have HPL := Lib.hid hpl
        clear hby hpl hf2 hen l1 l2 l3 l4 hin
        go_upto_region 18 with fail
        (refine Pq.wp_region_plan (fun q => q = ib ∨ vblk (V 2) = some q) 7 [(true, 0), (true, 1), (true, 2), (false, 3), (false, 4), (false, 5), (true, 6), (false, 7)] (by kernel_rfl) (by kernel_rfl) ?_)
        (refine Pq.plan_head (i := 0) rfl (fun K hK => ?_); refine Pq.plan_plain (.pointer (some ⟨mb, 2, none⟩)) (by first | rfl | simp [Region.wanted, yielded]) (fun w' hw' => by go_simp) ?_; go_simp; (with_reducible apply hK); clear hK K)
        (refine Pq.plan_head (i := 1) rfl (fun K hK => ?_); refine Pq.plan_plain (V 2) (by first | rfl | simp [Region.wanted, yielded]) (fun w' hw' => by have e := C1.out _ hw'; go_simp; try simp [e]) ?_; go_simp; (with_reducible apply hK); clear hK K)
        (refine Pq.plan_head (i := 2) rfl (fun K hK => ?_); refine Pq.plan_plain (.pointer (some ⟨ib, 0, none⟩)) (by first | rfl | simp [Region.wanted, yielded]) (fun w' hw' => by go_simp) ?_; go_simp; (with_reducible apply hK); clear hK K)
        refine Pq.plan_sole (i := 3) rfl (fun w3 h2 Q2 hQ2 => ?_)
        go_wp2_with (go_at_call 53; refine (CALL.out w3 h2).mono ?_; rintro e w4 ⟨rfl, q4, hk4⟩)
        have K4 := Lib.hid (((Keeps.refl (fun q => q = ib ∨ vblk (V 2) = some q) wr.drew).rw h2).trans (hk4.mono (fun _ _ e => .inl e)) (fun _ _ e => e))
        have Q4 := Lib.hid q4
        clear q4 hk4 h2 CALL
        refine hQ2 _ _ K4.out ?_
        clear hQ2 Q2
        refine Pq.plan_sole (i := 4) rfl (fun w5 h5 Q5 hQ5 => ?_)
        have K6 := Lib.hid ((K4.out.rw h5).alloc (.cells #[.string (by8 x)] 9))
        have Q6 := Lib.hid ((Q4.out.below h5).below (below1 w5 (.cells #[.string (by8 x)] 9)))
        have L6 := Lib.hid (lit_one w5 9 (.string (by8 x)))
        clear K4 Q4 h5
        go_wp2_with fail
        refine hQ5 _ _ K6.out ?_
        clear hQ5 Q5
        generalize hw6 : w5.alloc _ = w6 at *
        clear hw6
        generalize w5.heap.size = g5 at *
        refine Pq.plan_sole (i := 5) rfl (fun w7 h7 Q7 hQ7 => ?_)
        have K7 := Lib.hid (K6.out.rw h7)
        have Q7' := Lib.hid (Q6.out.below h7)
        have L7 := Lib.hid (L6.out.below h7)
        have SV := Lib.hid ((Q7'.out.pb.sg 2 (by decide) (by decide)).1)
        have b1 : (X 2).length + 1 ≤ maxLen := by unfold maxLen; omega
        have b2 : ((X 2).length + 1) * 16 ≤ 140737488355328 := by omega
        have HBB := Lib.hid (And.intro b1 b2)
        clear K6 Q6 L6 h7 b1 b2
        go_simp
        refine wpList_append_any _ rfl (.tmp 63) (.tmp 66) 42 rfl 9 is (.string ⟨#[]⟩) 1 16 Tryz.underlying42 JS.out.1 JS.out.2.1 JS.out.2.2.1 JS.out.2.2.2 rfl (by decide) (V 2) (X 2).length (X 2) rfl SV.out (.slice (some ⟨g5, 0, none⟩) 1 1) 1 [.string (by8 x)] rfl L7.out (one_of rfl) HBB.out.1 HBB.out.2 ?grow
        case grow =>
          intro v' w8 hs8 hv8 hk8
          obtain ⟨ao', cp', hv'⟩ : ∃ ao cp, v' = .slice ao ((X 2).length + 1) cp := let ⟨_, ao, cp, h, _⟩ := hs8; ⟨ao, cp, h⟩
          subst hv'
          have K8 := Lib.hid (K7.out.trans (hk8.mono (fun _ _ e => .inr e)) (fun _ _ e => e))
          have HG := Lib.hid (fun wz (hz : Below w8.heap.size w8 wz) => FIN.out w7 w8 wz _ Q7'.out hs8 hv8 hk8 hz)
          have CC : Hid (∀ wz, Below w8.heap.size w8 wz → wz.cell? ⟨mb, 2, none⟩ = some (V 2) ∧ wz.frozen? ⟨mb, 2, none⟩ = false) := Lib.hid fun wz hz => by
            have B := (hk8.blk Q7'.out.pb.blk (Q7'.out.pb.vne 2 (by decide) (by decide)))
            have B' := B.below hz B.lt
            exact ⟨B'.cell 2 _ rfl, B'.free 2⟩
          clear hs8 hv8 hk8 SV K7 L7 Q7' FIN
          go_wp2_with fail
          refine hQ7 _ _ K8.out ?_
          clear hQ7 Q7 K8 C1
          (refine Pq.plan_head (i := 6) rfl (fun K hK => ?_); refine Pq.plan_plain (.pointer (some ⟨mb, 2, none⟩)) (by first | rfl | simp [Region.wanted, yielded]) (fun w' hw' => by go_simp) ?_; go_simp; (with_reducible apply hK); clear hK K)
          refine Pq.plan_last rfl (fun wc hc Qc hQc => ?_)
          have cc := (CC.out wc hc).1
          have cf := (CC.out wc hc).2
          have HH2 := Lib.hid (HG.out wc hc)
          clear hc HG CC
          go_wp2_with fail
          intro wd hd
          have HD := Lib.hid (HH2.out.below hd)
          clear HH2 cc cf hd
          go_wp2_with fail
          go_roundw
          case rel => exact ⟨i + 1, _, _, _, _, _, _, _, _, by go_num, by omega, HR2.out _ _ _ _ _ _ _ _ _ HD.out⟩
          case measure => simp [intOf]; omega
      · have hby1 : (((by8 ls)[i]'hk).toNat : Int) = 99 := hby
        have hel := congrArg List.length hen
        rw [List.length_append] at hel
        rw [hen] at hin
        have CALL : Hid (∀ w2, Below wr.drew.heap.size wr.drew w2 → Calls Tryz.prog 55 #[.pointer (some ⟨ib, 0, none⟩), .int .i64 16] w2 fun e w3 => e = .returned (.string (by8 x)) ∧ QL w w.heap.size mb ib (kn : Nat) V X T np (Ms.enc r u' s2 n' b') w3 ∧ Keeps (fun q => q = ib) w2 w3) := Lib.hid fun w2 h2 => by
          have B2 : Below wr.heap.size wr w2 := Rw.trans (below_drewN (Below.refl wr.heap.size wr) 1) h2
          have h6 := h16 rfl
          have hw : IN w2 ib (x ++ Ms.enc r u' s2 n' b') := hin.below B2 hin.lt
          refine (Wi.raw_ok ib _ 16 w2 hw (by rw [List.length_append]; omega) (by rw [List.length_append]; omega)).mono ?_
          rintro e w3 ⟨rfl, hi3, hk3⟩
          rw [List.take_left' h6]
          rw [List.drop_left' h6] at hi3
          exact ⟨rfl, (hpl.below B2).call hi3 hk3, hk3⟩
        clear hel hx100 h16 e1 e2 e3
        have C1 : Hid (∀ w', Keeps (fun q => q = ib ∨ vblk (V 2) = some q) wr.drew w' → w'.cell? ⟨mb, 2, none⟩ = some (V 2)) := Lib.hid fun w' hw' => (hw'.blk (show Blk wr.drew mb tM _ from hpl.pb.blk) (fun e => e.elim hpl.pb.t0.2.2.1 (hpl.pb.vne 2 (by decide) (by decide)))).cell 2 _ rfl
        have HPL := Lib.hid hpl
        clear hby hpl hf2 hen l1 l2 l3 l4 hin
        go_upto_region 22 with fail
        (refine Pq.wp_region_plan (fun q => q = ib ∨ vblk (V 2) = some q) 7 [(true, 0), (true, 1), (true, 2), (false, 3), (false, 4), (false, 5), (true, 6), (false, 7)] (by kernel_rfl) (by kernel_rfl) ?_)
        (refine Pq.plan_head (i := 0) rfl (fun K hK => ?_); refine Pq.plan_plain (.pointer (some ⟨mb, 2, none⟩)) (by first | rfl | simp [Region.wanted, yielded]) (fun w' hw' => by go_simp) ?_; go_simp; (with_reducible apply hK); clear hK K)
        (refine Pq.plan_head (i := 1) rfl (fun K hK => ?_); refine Pq.plan_plain (V 2) (by first | rfl | simp [Region.wanted, yielded]) (fun w' hw' => by have e := C1.out _ hw'; go_simp; try simp [e]) ?_; go_simp; (with_reducible apply hK); clear hK K)
        (refine Pq.plan_head (i := 2) rfl (fun K hK => ?_); refine Pq.plan_plain (.pointer (some ⟨ib, 0, none⟩)) (by first | rfl | simp [Region.wanted, yielded]) (fun w' hw' => by go_simp) ?_; go_simp; (with_reducible apply hK); clear hK K)
        refine Pq.plan_sole (i := 3) rfl (fun w3 h2 Q2 hQ2 => ?_)
        go_wp2_with (go_at_call 55; refine (CALL.out w3 h2).mono ?_; rintro e w4 ⟨rfl, q4, hk4⟩)
        have K4 := Lib.hid (((Keeps.refl (fun q => q = ib ∨ vblk (V 2) = some q) wr.drew).rw h2).trans (hk4.mono (fun _ _ e => .inl e)) (fun _ _ e => e))
        have Q4 := Lib.hid q4
        clear q4 hk4 h2 CALL
        refine hQ2 _ _ K4.out ?_
        clear hQ2 Q2
        refine Pq.plan_sole (i := 4) rfl (fun w5 h5 Q5 hQ5 => ?_)
        have K6 := Lib.hid ((K4.out.rw h5).alloc (.cells #[.string (by8 x)] 9))
        have Q6 := Lib.hid ((Q4.out.below h5).below (below1 w5 (.cells #[.string (by8 x)] 9)))
        have L6 := Lib.hid (lit_one w5 9 (.string (by8 x)))
        clear K4 Q4 h5
        go_wp2_with fail
        refine hQ5 _ _ K6.out ?_
        clear hQ5 Q5
        generalize hw6 : w5.alloc _ = w6 at *
        clear hw6
        generalize w5.heap.size = g5 at *
        refine Pq.plan_sole (i := 5) rfl (fun w7 h7 Q7 hQ7 => ?_)
        have K7 := Lib.hid (K6.out.rw h7)
        have Q7' := Lib.hid (Q6.out.below h7)
        have L7 := Lib.hid (L6.out.below h7)
        have SV := Lib.hid ((Q7'.out.pb.sg 2 (by decide) (by decide)).1)
        have b1 : (X 2).length + 1 ≤ maxLen := by unfold maxLen; omega
        have b2 : ((X 2).length + 1) * 16 ≤ 140737488355328 := by omega
        have HBB := Lib.hid (And.intro b1 b2)
        clear K6 Q6 L6 h7 b1 b2
        go_simp
        refine wpList_append_any _ rfl (.tmp 81) (.tmp 84) 42 rfl 9 is (.string ⟨#[]⟩) 1 16 Tryz.underlying42 JS.out.1 JS.out.2.1 JS.out.2.2.1 JS.out.2.2.2 rfl (by decide) (V 2) (X 2).length (X 2) rfl SV.out (.slice (some ⟨g5, 0, none⟩) 1 1) 1 [.string (by8 x)] rfl L7.out (one_of rfl) HBB.out.1 HBB.out.2 ?grow
        case grow =>
          intro v' w8 hs8 hv8 hk8
          obtain ⟨ao', cp', hv'⟩ : ∃ ao cp, v' = .slice ao ((X 2).length + 1) cp := let ⟨_, ao, cp, h, _⟩ := hs8; ⟨ao, cp, h⟩
          subst hv'
          have K8 := Lib.hid (K7.out.trans (hk8.mono (fun _ _ e => .inr e)) (fun _ _ e => e))
          have HG := Lib.hid (fun wz (hz : Below w8.heap.size w8 wz) => FIN.out w7 w8 wz _ Q7'.out hs8 hv8 hk8 hz)
          have CC : Hid (∀ wz, Below w8.heap.size w8 wz → wz.cell? ⟨mb, 2, none⟩ = some (V 2) ∧ wz.frozen? ⟨mb, 2, none⟩ = false) := Lib.hid fun wz hz => by
            have B := (hk8.blk Q7'.out.pb.blk (Q7'.out.pb.vne 2 (by decide) (by decide)))
            have B' := B.below hz B.lt
            exact ⟨B'.cell 2 _ rfl, B'.free 2⟩
          clear hs8 hv8 hk8 SV K7 L7 Q7' FIN
          go_wp2_with fail
          refine hQ7 _ _ K8.out ?_
          clear hQ7 Q7 K8 C1
          (refine Pq.plan_head (i := 6) rfl (fun K hK => ?_); refine Pq.plan_plain (.pointer (some ⟨mb, 2, none⟩)) (by first | rfl | simp [Region.wanted, yielded]) (fun w' hw' => by go_simp) ?_; go_simp; (with_reducible apply hK); clear hK K)
          refine Pq.plan_last rfl (fun wc hc Qc hQc => ?_)
          have cc := (CC.out wc hc).1
          have cf := (CC.out wc hc).2
          have HH2 := Lib.hid (HG.out wc hc)
          clear hc HG CC
          go_wp2_with fail
          intro wd hd
          have HD := Lib.hid (HH2.out.below hd)
          clear HH2 cc cf hd
          go_wp2_with fail
          go_roundw
          case rel => exact ⟨i + 1, _, _, _, _, _, _, _, _, by go_num, by omega, HR2.out _ _ _ _ _ _ _ _ _ HD.out⟩
          case measure => simp [intOf]; omega
      · have hby1 : (((by8 ls)[i]'hk).toNat : Int) = 114 := hby
        have hel := congrArg List.length hen
        rw [List.length_append] at hel
        rw [hen] at hin
        have hnil : Ms.enc r u' s2 n' b' = [] := by rw [hr0]; rfl
        have hin2 : IN wr ib x := by
          have h := hin
          rw [hnil, if_neg (by decide), List.append_nil] at h
          exact h
        have LEFT : Hid (∀ w2, Below wr.drew.heap.size wr.drew w2 → Calls Tryz.prog 56 #[.pointer (some ⟨ib, 0, none⟩)] w2 fun e w3 => e = .returned (.int .i64 (x.length : Nat)) ∧ w2 = w3) := Lib.hid fun w2 h2 => by
          have B2 : Below wr.heap.size wr w2 := Rw.trans (below_drewN (Below.refl wr.heap.size wr) 1) h2
          exact Wi.left_ok ib x w2 (hin2.below B2 hin2.lt)
        have CALL : Hid (∀ w2, Below wr.drew.heap.size wr.drew w2 → Calls Tryz.prog 55 #[.pointer (some ⟨ib, 0, none⟩), .int .i64 (x.length : Nat)] w2 fun e w3 => e = .returned (.string (by8 x)) ∧ QL w w.heap.size mb ib (kn : Nat) V X T np (Ms.enc r u' s2 n' b') w3 ∧ Keeps (fun q => q = ib) w2 w3) := Lib.hid fun w2 h2 => by
          have B2 : Below wr.heap.size wr w2 := Rw.trans (below_drewN (Below.refl wr.heap.size wr) 1) h2
          refine (Wi.raw_ok ib x x.length w2 (hin2.below B2 hin2.lt) (Nat.le_refl _) (by omega)).mono ?_
          rintro e w3 ⟨rfl, hi3, hk3⟩
          rw [List.take_length]
          rw [List.drop_length, ← hnil] at hi3
          exact ⟨rfl, (hpl.below B2).call hi3 hk3, hk3⟩
        clear hel hx100 h16 e1 e2 e3 hnil hin2 hr0
        have C1 : Hid (∀ w', Keeps (fun q => q = ib ∨ vblk (V 2) = some q) wr.drew w' → w'.cell? ⟨mb, 2, none⟩ = some (V 2)) := Lib.hid fun w' hw' => (hw'.blk (show Blk wr.drew mb tM _ from hpl.pb.blk) (fun e => e.elim hpl.pb.t0.2.2.1 (hpl.pb.vne 2 (by decide) (by decide)))).cell 2 _ rfl
        have HPL := Lib.hid hpl
        clear hby hpl hf2 hen l1 l2 l3 l4 hin
        go_upto_region 24 with fail
        (refine Pq.wp_region_plan (fun q => q = ib ∨ vblk (V 2) = some q) 9 [(true, 0), (true, 1), (true, 2), (true, 3), (false, 4), (false, 5), (false, 6), (false, 7), (true, 8), (false, 9)] (by kernel_rfl) (by kernel_rfl) ?_)
        (refine Pq.plan_head (i := 0) rfl (fun K hK => ?_); refine Pq.plan_plain (.pointer (some ⟨mb, 2, none⟩)) (by first | rfl | simp [Region.wanted, yielded]) (fun w' hw' => by go_simp) ?_; go_simp; (with_reducible apply hK); clear hK K)
        (refine Pq.plan_head (i := 1) rfl (fun K hK => ?_); refine Pq.plan_plain (V 2) (by first | rfl | simp [Region.wanted, yielded]) (fun w' hw' => by have e := C1.out _ hw'; go_simp; try simp [e]) ?_; go_simp; (with_reducible apply hK); clear hK K)
        (refine Pq.plan_head (i := 2) rfl (fun K hK => ?_); refine Pq.plan_plain (.pointer (some ⟨ib, 0, none⟩)) (by first | rfl | simp [Region.wanted, yielded]) (fun w' hw' => by go_simp) ?_; go_simp; (with_reducible apply hK); clear hK K)
        (refine Pq.plan_head (i := 3) rfl (fun K hK => ?_); refine Pq.plan_plain (.pointer (some ⟨ib, 0, none⟩)) (by first | rfl | simp [Region.wanted, yielded]) (fun w' hw' => by go_simp) ?_; go_simp; (with_reducible apply hK); clear hK K)
        refine Pq.plan_sole (i := 4) rfl (fun w2 h2 Q2 hQ2 => ?_)
        have K2 := Lib.hid ((Keeps.refl (fun q => q = ib ∨ vblk (V 2) = some q) wr.drew).rw h2)
        go_wp2_with (go_at_call 56; refine (LEFT.out w2 h2).mono ?_; rintro e w3 ⟨rfl, rfl⟩)
        refine hQ2 _ _ K2.out ?_
        clear hQ2 Q2
        refine Pq.plan_sole (i := 5) rfl (fun w3 h3 Q2 hQ2 => ?_)
        have h2 := Rw.trans h2 h3
        clear K2
        go_wp2_with (go_at_call 55; refine (CALL.out w3 h2).mono ?_; rintro e w4 ⟨rfl, q4, hk4⟩)
        have K4 := Lib.hid (((Keeps.refl (fun q => q = ib ∨ vblk (V 2) = some q) wr.drew).rw h2).trans (hk4.mono (fun _ _ e => .inl e)) (fun _ _ e => e))
        have Q4 := Lib.hid q4
        clear q4 hk4 h2 CALL
        refine hQ2 _ _ K4.out ?_
        clear hQ2 Q2
        refine Pq.plan_sole (i := 6) rfl (fun w5 h5 Q5 hQ5 => ?_)
        have K6 := Lib.hid ((K4.out.rw h5).alloc (.cells #[.string (by8 x)] 9))
        have Q6 := Lib.hid ((Q4.out.below h5).below (below1 w5 (.cells #[.string (by8 x)] 9)))
        have L6 := Lib.hid (lit_one w5 9 (.string (by8 x)))
        clear K4 Q4 h5
        go_wp2_with fail
        refine hQ5 _ _ K6.out ?_
        clear hQ5 Q5
        generalize hw6 : w5.alloc _ = w6 at *
        clear hw6
        generalize w5.heap.size = g5 at *
        refine Pq.plan_sole (i := 7) rfl (fun w7 h7 Q7 hQ7 => ?_)
        have K7 := Lib.hid (K6.out.rw h7)
        have Q7' := Lib.hid (Q6.out.below h7)
        have L7 := Lib.hid (L6.out.below h7)
        have SV := Lib.hid ((Q7'.out.pb.sg 2 (by decide) (by decide)).1)
        have b1 : (X 2).length + 1 ≤ maxLen := by unfold maxLen; omega
        have b2 : ((X 2).length + 1) * 16 ≤ 140737488355328 := by omega
        have HBB := Lib.hid (And.intro b1 b2)
        clear K6 Q6 L6 h7 b1 b2
        go_simp
        refine wpList_append_any _ rfl (.tmp 90) (.tmp 95) 42 rfl 9 is (.string ⟨#[]⟩) 1 16 Tryz.underlying42 JS.out.1 JS.out.2.1 JS.out.2.2.1 JS.out.2.2.2 rfl (by decide) (V 2) (X 2).length (X 2) rfl SV.out (.slice (some ⟨g5, 0, none⟩) 1 1) 1 [.string (by8 x)] rfl L7.out (one_of rfl) HBB.out.1 HBB.out.2 ?grow
        case grow =>
          intro v' w8 hs8 hv8 hk8
          obtain ⟨ao', cp', hv'⟩ : ∃ ao cp, v' = .slice ao ((X 2).length + 1) cp := let ⟨_, ao, cp, h, _⟩ := hs8; ⟨ao, cp, h⟩
          subst hv'
          have K8 := Lib.hid (K7.out.trans (hk8.mono (fun _ _ e => .inr e)) (fun _ _ e => e))
          have HG := Lib.hid (fun wz (hz : Below w8.heap.size w8 wz) => FIN.out w7 w8 wz _ Q7'.out hs8 hv8 hk8 hz)
          have CC : Hid (∀ wz, Below w8.heap.size w8 wz → wz.cell? ⟨mb, 2, none⟩ = some (V 2) ∧ wz.frozen? ⟨mb, 2, none⟩ = false) := Lib.hid fun wz hz => by
            have B := (hk8.blk Q7'.out.pb.blk (Q7'.out.pb.vne 2 (by decide) (by decide)))
            have B' := B.below hz B.lt
            exact ⟨B'.cell 2 _ rfl, B'.free 2⟩
          clear hs8 hv8 hk8 SV K7 L7 Q7' FIN
          go_wp2_with fail
          refine hQ7 _ _ K8.out ?_
          clear hQ7 Q7 K8 C1
          (refine Pq.plan_head (i := 8) rfl (fun K hK => ?_); refine Pq.plan_plain (.pointer (some ⟨mb, 2, none⟩)) (by first | rfl | simp [Region.wanted, yielded]) (fun w' hw' => by go_simp) ?_; go_simp; (with_reducible apply hK); clear hK K)
          refine Pq.plan_last rfl (fun wc hc Qc hQc => ?_)
          have cc := (CC.out wc hc).1
          have cf := (CC.out wc hc).2
          have HH2 := Lib.hid (HG.out wc hc)
          clear hc HG CC
          go_wp2_with fail
          intro wd hd
          have HD := Lib.hid (HH2.out.below hd)
          clear HH2 cc cf hd
          go_wp2_with fail
          go_roundw
          case rel => exact ⟨i + 1, _, _, _, _, _, _, _, _, by go_num, by omega, HR2.out _ _ _ _ _ _ _ _ _ HD.out⟩
          case measure => simp [intOf]; omega
    · obtain rfl : i = N := by omega
      have hd : ls.drop i = [] := by rw [HN.out]; exact List.drop_length
      have hpl := hr.out
      rw [hd] at hpl
      obtain ⟨hin, au, aq, an, ab, nu, cu, ns, cs, nn, cn, nb, cb, hm, hv⟩ := hpl.done
      have R9 := hpl.pb.r0.1
      have hne := hpl.pb.r0.2.2.1
      have B9 := hpl.bw
      clear hr hd hpl
      go_upto_region 29 with (go_at_call 57; refine (Wi.end_ok ib wr hin).mono ?_; rintro e w5 ⟨rfl, rfl⟩)
      have CC := Lib.hid (CK.out au aq an ab nu cu ns cs nn cn nb cb wr B9 (hv.mono (fun _ _ e => e.elim)))
      go_upto_region 32 with (first | refine load_wide hm Tryz.underlying49 rfl msg_size rfl rfl rfl rfl ?_ | (go_at_call 33; refine CC.out.mono ?_; rintro e w6 ⟨rfl, hb6⟩))
      have m6 := hm.below hb6 hm.lt
      have R6 := R9.below hb6 R9.lt
      have V6 := hv.below hb6
      have B6 := B9.trans (hb6.mono B9.size)
      have ONE := sls_one (kn : Nat) au aq an ab nu cu ns cs nn cn nb cb
      have HF := Lib.hid (And.intro (R6.setRow [.int .i64 (kn : Nat), .slice au nu cu, .slice aq ns cs, .slice an nn cn, .slice ab nb cb]) (And.intro ((V6.keeps (keeps_row w6 w.heap.size [.int .i64 (kn : Nat), .slice au nu cu, .slice aq ns cs, .slice an nn cn, .slice ab nb cb].toArray) (fun g _ e => e)).mono (F' := fun _ => False) (fun _ _ e => e.elim)) (below_row B6 w.heap.size [.int .i64 (kn : Nat), .slice au nu cu, .slice aq ns cs, .slice an nn cn, .slice ab nb cb].toArray (Nat.le_refl _))))
      clear hm hv R9 B9 CC V6 B6 hin CK
      go_wp2_with (first | refine load_wide m6 Tryz.underlying49 rfl msg_size rfl rfl rfl rfl ?_ | refine store_blk (n := 5) (cs := [.int .i64 (kn : Nat), .slice au nu cu, .slice aq ns cs, .slice an nn cn, .slice ab nb cb]) R6 msg_size rfl rfl ONE rfl rfl rfl rfl ?_)
      exact ret_msg rfl HF.out.1 rfl rfl rfl rfl ⟨⟨au, aq, an, ab, nu, cu, ns, cs, nn, cn, nb, cb, rfl, HF.out.2.1⟩, HF.out.2.2⟩
end Mg
end Go.Proofs.YtcbkbjpdfanjpaaGreatDoor
