/-
The law's Few, walked.
-/
import Derived.Test.YtcbkbjpdfanjpaaGreatDoorPk41
import Derived.Test.YtcbkbjpdfanjpaaGreatDoorPk08
import Derived.Test.YtcbkbjpdfanjpaaGreatDoorPk06
import Derived.Test.YtcbkbjpdfanjpaaGreatDoorPk37
namespace Go.Proofs.YtcbkbjpdfanjpaaGreatDoor
open Go.RowKit
set_option maxRecDepth 100000
namespace Fe
open Spl (sv)
open Mg (FV NN bv tR zM)
theorem tR_size : (Tryz.prog.info? tR).map (·.size) = some 5 := by kernel_rfl
theorem run_alloc_ref (w : World) : (Instr.alloc tR true (.tuple #[])).run Tryz.prog w = .ok (.pointer (some ⟨w.heap.size, 0, none⟩)) (w.alloc (.cells zM.toArray tR)) := by kernel_rfl
theorem FQ.fin {F : Nat → Prop} {ob rb mb : Nat} {cs0 : List Value} {k : Int} {VS VN : Value} {XS XN : List Value} {T : Nat → Nat} {np : List (List S)} {w w' : World} {u : List Nat} {b : List Bool} {fs : List S} {a1 a4 : Option Addr} {k1 c1 k4 c4 : Nat}
    (h : FQ w.heap.size ob rb mb cs0 k (.slice a1 k1 c1) (.slice a4 k4 c4) VS VN XS XN T np w') (hF : ∀ g, w.heap.size ≤ g → ¬ F g) (hb : Below w.heap.size w w') (hrb : w.heap.size ≤ rb) (h1 : Rs F w a1 k1 c1 (Mg.uv u)) (h4 : Rs F w a4 k4 c4 (bv b)) (hs : XS = sv fs) :
    ∃ aq an ns cs nn cn, VS = .slice aq ns cs ∧ VN = .slice an nn cn ∧ FV (fun g => F g ∨ g = rb) w' u fs np b a1 aq an a4 k1 c1 ns cs nn cn k4 c4 := by
  obtain ⟨aq, cs, e2, r2⟩ := Rs.of_sg (F := fun g => F g ∨ g = rb) h.s.1 (fun g hg e => by
    rcases e with e | e
    · exact hF g (h.s.2 g hg).2 e
    · subst e; have := (h.s.2 g hg).1; have := h.t0.2.1; omega)
  obtain ⟨an, cn, e3, r3⟩ := Rs.of_sg (F := fun g => F g ∨ g = rb) h.n.1 (fun g hg e => by
    rcases e with e | e
    · exact hF g (h.n.2 g hg).2 e
    · subst e; have := (h.n.2 g hg).1; have := h.t0.2.1; omega)
  have old : ∀ {a : Option Addr} {m c : Nat} {xs : List Value}, Rs F w a m c xs → Rs (fun g => F g ∨ g = rb) w' a m c xs := fun h => (h.mono (F' := fun g => F g ∨ g = rb) (fun g hg e => e.elim id (fun e => by omega))).below hb
  refine ⟨aq, an, _, cs, _, cn, e2, e3, old h1, by rw [← hs]; exact r2, ⟨XN, r3, h.inl, fun i x l hx hl => ?_⟩, old h4⟩
  obtain ⟨a, k', c, e, hr⟩ := h.inn i x l hx hl
  refine ⟨a, k', c, e, hr.mono (fun g hg e => ?_)⟩
  rcases e with e | e
  · right
    rcases Nat.lt_or_ge g w.heap.size with h' | h'
    · exact h'
    · exact absurd e (hF g h')
  · subst e
    left
    rw [h.t0.2.1]; omega
theorem uv_take (u : List Nat) (k : Nat) : (Mg.uv u).take k = Mg.uv (u.take k) := by unfold Mg.uv; rw [List.map_take]
theorem bv_take (u : List Bool) (k : Nat) : (bv u).take k = bv (u.take k) := by unfold bv; rw [List.map_take]
theorem take_min {α : Type} (l : List α) (n : Nat) : l.take (min l.length n) = l.take n := by
  rcases Nat.le_total l.length n with h | h
  · rw [Nat.min_eq_left h, List.take_of_length_le (Nat.le_refl _), List.take_of_length_le h]
  · rw [Nat.min_eq_right h]
set_option maxHeartbeats 16000000 in
theorem few_ok (F : Nat → Prop) (k : Int) (u : List Nat) (s : List S) (n : List (List S)) (b : List Bool) (au aq an ab : Option Addr) (nu cu ns cs nn cn nb cb : Nat) (w : World) (hF : ∀ g, w.heap.size ≤ g → ¬ F g)
    (hv : FV F w u s n b au aq an ab nu cu ns cs nn cn nb cb) :
    Calls Tryz.prog 7 #[.agg #[.int .i64 k, .slice au nu cu, .slice aq ns cs, .slice an nn cn, .slice ab nb cb]] w fun e w' => (∃ au' aq' an' ab' nu' cu' ns' cs' nn' cn' nb' cb', e = .returned (.agg #[.int .i64 k, .slice au' nu' cu', .slice aq' ns' cs', .slice an' nn' cn', .slice ab' nb' cb']) ∧ FV F w' (u.take 9) (fS s) (fN n) (b.take 9) au' aq' an' ab' nu' cu' ns' cs' nn' cn' nb' cb') ∧ Below w.heap.size w w' := by
  obtain ⟨p1, p2, p3, p4⟩ := hv.lens
  have HP := Lib.hid (And.intro p1 (And.intro p2 (And.intro p3 p4)))
  obtain ⟨iu, hiu, hiu1⟩ := Mg.infou
  obtain ⟨ib, hib, hib1⟩ := Mg.infob
  obtain ⟨k1, hk1⟩ : ∃ k1, k1 = min nu 9 := ⟨_, rfl⟩
  obtain ⟨k4, hk4⟩ : ∃ k4, k4 = min nb 9 := ⟨_, rfl⟩
  obtain ⟨a1, hr1, ht1⟩ := hv.u.take Tryz.underlying41 hiu k1 (by omega)
  obtain ⟨a4, hr4, ht4⟩ := hv.b.take Tryz.underlying44 hib k4 (by omega)
  have HT := Lib.hid (And.intro ht1 (And.intro ht4 (And.intro hk1 hk4)))
  have HR1 := Lib.hid hr1
  have HR4 := Lib.hid hr4
  have HM1 : Hid (min (nu : Int) 9 = (k1 : Int)) := Lib.hid (by omega)
  have HM4 : Hid (min (nb : Int) 9 = (k4 : Int)) := Lib.hid (by omega)
  have HV := Lib.hid (And.intro hv hF)
  clear p1 p2 p3 p4 hiu hiu1 hib hib1 hk1 hk4 hr1 hr4 ht1 ht4 hv hF
  go_enter Tryz.func7, Tryz.ntmps7
  go_upto_region 1 with fail
  refine wp_gen (fun wx => Blk wx w.heap.size tR [.int .i64 k, .slice au nu cu, .slice aq ns cs, .slice an nn cn, .slice ab nb cb] ∧ Blk wx (w.heap.size + 1) tR zM ∧ Below w.heap.size w wx) ⟨(Blk.new w tR [.int .i64 k, .slice au nu cu, .slice aq ns cs, .slice an nn cn, .slice ab nb cb]).alloc _, Blk.new2 _ _ tR zM, below2 _ _ _⟩ ?_
  rintro w1 ⟨O1, R1, B1⟩
  have OD : Hid (Blk w1.drew w.heap.size tR [.int .i64 k, .slice au nu cu, .slice aq ns cs, .slice an nn cn, .slice ab nb cb]) := Lib.hid (O1.drew 1)
  have d0 : ∀ w', Rw w1.drew w' → w'.cell? ⟨w.heap.size, 0, none⟩ = some (.int .i64 k) := fun w' h => (OD.out.rw h).cell 0 _ rfl
  have d1 : ∀ w', Rw w1.drew w' → w'.cell? ⟨w.heap.size, 1, none⟩ = some (.slice au nu cu) := fun w' h => (OD.out.rw h).cell 1 _ rfl
  have d4 : ∀ w', Rw w1.drew w' → w'.cell? ⟨w.heap.size, 4, none⟩ = some (.slice ab nb cb) := fun w' h => (OD.out.rw h).cell 4 _ rfl
  have HO := Lib.hid (And.intro R1 B1)
  clear O1 R1 B1
  (refine wp_region_drift 17 (by kernel_rfl) (by kernel_rfl) ?_; simp only [List.take_succ_cons, List.take_zero, List.drop_succ_cons, List.drop_zero])
  (iterate 7 (refine drift_step (fun K hK => ?_); refine drift_autoE (by first | rfl | simp [Region.wanted, yielded]) ?_; apply Exists.intro; refine ⟨fun w' hw' => ?_, ?_⟩; (focus (go_simp; (first | done | rfl | ((try go_ints); (try simp only [↓IntWalk.iteOmega, true_and]); (try go_simp); (first | done | rfl))))); go_simp; (with_reducible apply hK); clear hK K))
  (refine drift_step (fun K hK => ?_); refine drift_plain (.int .i64 (k1 : Nat)) (by first | rfl | simp [Region.wanted, yielded]) (fun w' hw' => by go_simp; simp [HM1.out]) ?_; go_simp; (with_reducible apply hK); clear hK K)
  (refine drift_step (fun K hK => ?_); refine drift_plain (.slice a1 k1 cu) (by first | rfl | simp [Region.wanted, yielded]) (fun w' hw' => by have e := HR1.out w'; go_simp; try simp [e]) ?_; go_simp; (with_reducible apply hK); clear hK K)
  (iterate 5 (refine drift_step (fun K hK => ?_); refine drift_autoE (by first | rfl | simp [Region.wanted, yielded]) ?_; apply Exists.intro; refine ⟨fun w' hw' => ?_, ?_⟩; (focus (go_simp; (first | done | rfl | ((try go_ints); (try simp only [↓IntWalk.iteOmega, true_and]); (try go_simp); (first | done | rfl))))); go_simp; (with_reducible apply hK); clear hK K))
  (refine drift_step (fun K hK => ?_); refine drift_plain (.int .i64 (k4 : Nat)) (by first | rfl | simp [Region.wanted, yielded]) (fun w' hw' => by go_simp; simp [HM4.out]) ?_; go_simp; (with_reducible apply hK); clear hK K)
  (refine drift_step (fun K hK => ?_); refine drift_plain (.slice a4 k4 cb) (by first | rfl | simp [Region.wanted, yielded]) (fun w' hw' => by have e := HR4.out w'; go_simp; try simp [e]) ?_; go_simp; (with_reducible apply hK); clear hK K)
  (iterate 1 (refine drift_step (fun K hK => ?_); refine drift_autoE (by first | rfl | simp [Region.wanted, yielded]) ?_; apply Exists.intro; refine ⟨fun w' hw' => ?_, ?_⟩; (focus (go_simp; (first | done | rfl | ((try go_ints); (try simp only [↓IntWalk.iteOmega, true_and]); (try go_simp); (first | done | rfl))))); go_simp; (with_reducible apply hK); clear hK K))
  refine drift_nil ?_
  refine drift_newG run_alloc_ref tR_size rfl rfl (Mg.sls_one k a1 none none a4 k1 cu 0 0 0 0 k4 cb) rfl rfl rfl rfl rfl rfl (Nat.le_of_ble_eq_true rfl) (fun v => rfl) (fun ob w2 hob R2 B2 => ?_)
  have hsz1 : w.heap.size + 1 < w1.heap.size := HO.out.1.lt
  have hob' : w1.heap.size ≤ ob := hob
  have BW2 : Below w.heap.size w w2 := HO.out.2.trans ((Rw.trans (below_drewN (Below.refl w1.heap.size w1) 1) R2).mono HO.out.2.size)
  have HQ : Hid (FQ w.heap.size ob (w.heap.size + 1) w.heap.size [.int .i64 k, .slice au nu cu, .slice aq ns cs, .slice an nn cn, .slice ab nb cb] k (.slice a1 k1 cu) (.slice a4 k4 cb) (.slice none 0 0) (.slice none 0 0) [] [] (fun _ => 0) [] w2 ∧ Below w.heap.size w w2) := Lib.hid
    ⟨⟨B2, OD.out.below R2 OD.out.lt, (HO.out.1.drew 1).below R2 HO.out.1.lt, ⟨rfl, rfl, rfl, by omega, by omega⟩, by omega, ⟨Sg.nil _ _, fun g hg => by cases hg⟩, ⟨Sg.nil _ _, fun g hg => by cases hg⟩, rfl, fun i x l hx => by cases hx⟩, BW2⟩
  have hobs : w.heap.size ≤ ob := by omega
  clear OD d0 d1 d4 HO R2 B2 BW2 hob hob' hsz1 HR1 HR4 HM1 HM4
  generalize hrb : w.heap.size + 1 = rb at *
  obtain ⟨is, js1, js2, js3, js4⟩ := Mg.iparts Mg.infS
  obtain ⟨ii, jn1, jn2, jn3, jn4⟩ := Mg.iparts Mg.infN
  have JS := Lib.hid (And.intro js1 (And.intro js2 (And.intro js3 js4)))
  have JN := Lib.hid (And.intro jn1 (And.intro jn2 (And.intro jn3 jn4)))
  clear js1 js2 js3 js4 jn1 jn2 jn3 jn4
  go_simp
  go_upto_region 3 with fail
  go_loopw [4] (fun v4 wx => ∃ (i : Nat) (VS : Value) (XS : List Value) (T : Nat → Nat), v4 = .int .i64 (i : Nat) ∧ i ≤ min ns 9 ∧ Hid (FQ w.heap.size ob rb w.heap.size [.int .i64 k, .slice au nu cu, .slice aq ns cs, .slice an nn cn, .slice ab nb cb] k (.slice a1 k1 cu) (.slice a4 k4 cb) VS (.slice none 0 0) XS [] T [] wx ∧ XS = sv (fS (s.take i)) ∧ Below w.heap.size w wx)) (fun v _ => 10 - (intOf v).toNat)
  case atStart => exact ⟨0, _, _, _, rfl, Nat.zero_le _, Lib.hid ⟨HQ.out.1, rfl, HQ.out.2⟩⟩
  case round =>
    obtain ⟨i, VS, XS, T, rfl, hi, hr⟩ := hrel
    clear HQ
    have hi9 : i ≤ 9 := by omega
    by_cases hgo : i < ns ∧ i < 9
    · obtain ⟨hgn, hg9⟩ := hgo
      obtain ⟨hq, hxs, hbw⟩ := hr.out
      obtain ⟨x, hx⟩ : ∃ x, s[i]? = some x := ⟨_, List.getElem?_eq_getElem (by have := HP.out.2.1; omega)⟩
      have hsx : (sv s)[i]? = some (.string (by8 x)) := by unfold sv; rw [List.getElem?_map, hx]; rfl
      obtain ⟨g, off, rfl, hg, -, -, hcw⟩ := HV.out.1.s.at hsx
      have m2 := hq.src.cell 2 _ rfl
      have SRC : Hid (∀ w', Keeps (fun q => vblk VS = some q) wr.drew w' → w'.cell? ⟨w.heap.size, 2, none⟩ = some (.slice (some ⟨g, off, none⟩) ns cs) ∧ w'.cell? ⟨ob, 2, none⟩ = some VS ∧ w'.cell? ⟨g, off + i, none⟩ = some (.string (by8 x))) := Lib.hid fun w' hw' => by
        have sd : Blk wr.drew w.heap.size tR _ := hq.src
        have od : Blk wr.drew ob tR _ := hq.blk
        refine ⟨(hw'.blk sd (fun e => ?_)).cell 2 _ rfl, (hw'.blk od (fun e => ?_)).cell 2 _ rfl, hw'.cell (p := ⟨g, off + i, none⟩) ?_ (fun e => ?_)⟩
        · have := (hq.s.2 _ e).1; have := hq.t0.2.2.1; omega
        · have := (hq.s.2 _ e).1; have := hq.t0.1; omega
        · have h0 : wr.cell? ⟨g, off + i, none⟩ = some (.string (by8 x)) := by rw [hbw.cell (p := ⟨g, off + i, none⟩) hg]; exact hcw
          exact h0
        · have := (hq.s.2 g e).2; omega
      have NX := Lib.hid (fS_next s i x hx hg9)
      have XL : Hid (XS.length ≤ 9) := Lib.hid (by
        rw [hxs]; unfold sv fS
        rw [List.length_map, List.length_map, List.length_take]
        omega)
      have HQ := Lib.hid (And.intro hq (And.intro hxs hbw))
      have e9 : ((i : Int) < 9) = True := eq_true (by omega)
      have en : ((i : Int) < (ns : Int)) = True := eq_true (by omega)
      clear hx hsx hcw hg hq hxs hbw hr
      go_upto_region 5 with fail
      (refine Pq.wp_region_plan (fun q => vblk VS = some q) 11 [(true, 0), (true, 1), (true, 2), (true, 3), (true, 4), (true, 5), (true, 6), (true, 7), (false, 8), (false, 9), (true, 10), (false, 11)] (by kernel_rfl) (by kernel_rfl) ?_)
      (refine Pq.plan_head (i := 0) rfl (fun K hK => ?_); refine Pq.plan_plain (.pointer (some ⟨ob, 2, none⟩)) (by first | rfl | simp [Region.wanted, yielded]) (fun w' hw' => by go_simp) ?_; go_simp; (with_reducible apply hK); clear hK K)
      (refine Pq.plan_head (i := 1) rfl (fun K hK => ?_); refine Pq.plan_plain (VS) (by first | rfl | simp [Region.wanted, yielded]) (fun w' hw' => by have e := (SRC.out _ hw').2.1; go_simp; try simp [e]) ?_; go_simp; (with_reducible apply hK); clear hK K)
      (refine Pq.plan_head (i := 2) rfl (fun K hK => ?_); refine Pq.plan_plain (.pointer (some ⟨w.heap.size, 2, none⟩)) (by first | rfl | simp [Region.wanted, yielded]) (fun w' hw' => by go_simp) ?_; go_simp; (with_reducible apply hK); clear hK K)
      (refine Pq.plan_head (i := 3) rfl (fun K hK => ?_); refine Pq.plan_plain (.slice (some ⟨g, off, none⟩) ns cs) (by first | rfl | simp [Region.wanted, yielded]) (fun w' hw' => by have e := (SRC.out _ hw').1; go_simp; try simp [e]) ?_; go_simp; (with_reducible apply hK); clear hK K)
      (refine Pq.plan_head (i := 4) rfl (fun K hK => ?_); refine Pq.plan_plain (.int .i64 (i : Nat)) (by first | rfl | simp [Region.wanted, yielded]) (fun w' hw' => by go_simp) ?_; go_simp; (with_reducible apply hK); clear hK K)
      (refine Pq.plan_head (i := 5) rfl (fun K hK => ?_); refine Pq.plan_plain (.pointer (some ⟨g, off + i, none⟩)) (by first | rfl | simp [Region.wanted, yielded]) (fun w' hw' => by go_simp) ?_; go_simp; (with_reducible apply hK); clear hK K)
      (refine Pq.plan_head (i := 6) rfl (fun K hK => ?_); refine Pq.plan_plain (.string (by8 x)) (by first | rfl | simp [Region.wanted, yielded]) (fun w' hw' => by have e := (SRC.out _ hw').2.2; go_simp; try simp [e]) ?_; go_simp; (with_reducible apply hK); clear hK K)
      (refine Pq.plan_head (i := 7) rfl (fun K hK => ?_); refine Pq.plan_call (.string (by8 (x.take 100))) 21 #[.string (by8 x), .int .i64 100] (by first | rfl | simp [Region.wanted, yielded]) (fun w' => by go_simp) (fun w' hw' => (cut_ok x 100 (by decide) w').mono (by rintro e w'' ⟨rfl, rfl⟩; exact ⟨rfl, Below.refl _ _⟩)) ?_; go_simp; (with_reducible apply hK); clear hK K)
      refine Pq.plan_sole (i := 8) rfl (fun w5 h5 Q5 hQ5 => ?_)
      have K6 := Lib.hid (((Keeps.refl (fun q => vblk VS = some q) wr.drew).rw h5).alloc (.cells #[.string (by8 (x.take 100))] 9))
      have Q6 : Hid (FQ w.heap.size ob rb w.heap.size [.int .i64 k, .slice au nu cu, .slice (some ⟨g, off, none⟩) ns cs, .slice an nn cn, .slice ab nb cb] k (.slice a1 k1 cu) (.slice a4 k4 cb) VS (.slice none 0 0) XS [] T [] (w5.alloc (.cells #[.string (by8 (x.take 100))] 9)) ∧ Below w.heap.size w (w5.alloc (.cells #[.string (by8 (x.take 100))] 9))) := Lib.hid (by
        have B5 : Below wr.heap.size wr w5 := Rw.trans (below_drewN (Below.refl wr.heap.size wr) 1) h5
        have b6 := B5.alloc B5.size (.cells #[.string (by8 (x.take 100))] 9)
        exact ⟨HQ.out.1.below b6, HQ.out.2.2.trans (b6.mono HQ.out.2.2.size)⟩)
      have L6 := Lib.hid (Mg.lit_one w5 9 (.string (by8 (x.take 100))))
      clear h5
      go_wp2_with fail
      refine hQ5 _ _ K6.out ?_
      clear hQ5 Q5
      generalize hw6 : w5.alloc _ = w6 at *
      clear hw6
      generalize w5.heap.size = g5 at *
      refine Pq.plan_sole (i := 9) rfl (fun w7 h7 Q7 hQ7 => ?_)
      have K7 := Lib.hid (K6.out.rw h7)
      have Q7' := Lib.hid (And.intro (Q6.out.1.below h7) (Q6.out.2.trans (Below.mono h7 Q6.out.2.size)))
      have L7 := Lib.hid (L6.out.below h7)
      have SV := Lib.hid Q7'.out.1.s.1
      have b1 : XS.length + 1 ≤ maxLen := by have := XL.out; unfold maxLen; omega
      have b2 : (XS.length + 1) * 16 ≤ 140737488355328 := by have := XL.out; omega
      have HBB := Lib.hid (And.intro b1 b2)
      clear K6 Q6 L6 h7 b1 b2
      go_simp
      refine wpList_append_any _ rfl (.tmp 37) (.tmp 44) 42 rfl 9 is (.string ⟨#[]⟩) 1 16 Tryz.underlying42 JS.out.1 JS.out.2.1 JS.out.2.2.1 JS.out.2.2.2 rfl (by decide) VS XS.length XS rfl SV.out (.slice (some ⟨g5, 0, none⟩) 1 1) 1 [.string (by8 (x.take 100))] rfl L7.out (Mg.one_of rfl) HBB.out.1 HBB.out.2 ?grow
      case grow =>
        intro v' w8 hs8 hv8 hk8
        obtain ⟨ao', cp', hv'⟩ : ∃ ao cp, v' = .slice ao (XS.length + 1) cp := let ⟨_, ao, cp, h, _⟩ := hs8; ⟨ao, cp, h⟩
        subst hv'
        have K8 := Lib.hid (K7.out.trans hk8 (fun _ _ e => e))
        have HG : Hid (∀ wz, Below w8.heap.size w8 wz → FQ w.heap.size ob rb w.heap.size [.int .i64 k, .slice au nu cu, .slice (some ⟨g, off, none⟩) ns cs, .slice an nn cn, .slice ab nb cb] k (.slice a1 k1 cu) (.slice a4 k4 cb) (.slice ao' (XS.length + 1) cp') (.slice none 0 0) (XS ++ [.string (by8 (x.take 100))]) [] (fun g => if g < w7.heap.size then T g else 2) [] (wz.setCell ⟨ob, 2, none⟩ (.slice ao' (XS.length + 1) cp')) ∧ Below w.heap.size w (wz.setCell ⟨ob, 2, none⟩ (.slice ao' (XS.length + 1) cp'))) := Lib.hid fun wz hz => by
          have h := Q7'.out.1.pushS Q7'.out.2.size hs8 hv8 hk8 hz
          exact ⟨h.1, Q7'.out.2.trans h.2⟩
        have CC : Hid (∀ wz, Below w8.heap.size w8 wz → wz.cell? ⟨ob, 2, none⟩ = some VS ∧ wz.frozen? ⟨ob, 2, none⟩ = false) := Lib.hid fun wz hz => by
          have B := hk8.blk Q7'.out.1.blk (fun e => by have := (Q7'.out.1.s.2 _ e).1; have := Q7'.out.1.t0.1; omega)
          have B' := B.below hz B.lt
          exact ⟨B'.cell 2 _ rfl, B'.free 2⟩
        clear hs8 hv8 hk8 SV K7 L7 Q7'
        go_wp2_with fail
        refine hQ7 _ _ K8.out ?_
        clear hQ7 Q7 K8 SRC
        (refine Pq.plan_head (i := 10) rfl (fun K hK => ?_); refine Pq.plan_plain (.pointer (some ⟨ob, 2, none⟩)) (by first | rfl | simp [Region.wanted, yielded]) (fun w' hw' => by go_simp) ?_; go_simp; (with_reducible apply hK); clear hK K)
        refine Pq.plan_last rfl (fun wc hc Qc hQc => ?_)
        have cc := (CC.out wc hc).1
        have cf := (CC.out wc hc).2
        have HH2 := Lib.hid (HG.out wc hc)
        clear hc HG CC
        go_wp2_with fail
        intro wd hd
        have HD := Lib.hid (And.intro (HH2.out.1.below hd) (And.intro (show XS ++ [.string (by8 (x.take 100))] = sv (fS (s.take (i + 1))) by rw [NX.out, HQ.out.2.1]; simp [sv]) (HH2.out.2.trans (Below.mono hd HH2.out.2.size))))
        clear HH2 cc cf hd
        go_wp2_with fail
        go_roundw
        case rel => exact ⟨i + 1, _, _, _, by go_num, by omega, HD⟩
        case measure => simp [intOf]; omega
    · have him : i = min ns 9 := by omega
      have hxs : XS = sv (fS s) := by rw [hr.out.2.1, fS_all s i (by rw [HP.out.2.1]; exact him)]
      have m2 := hr.out.1.src.cell 2 _ rfl
      have HQ2 := Lib.hid (And.intro hr.out.1 (And.intro hxs hr.out.2.2))
      -- REST
      have TKU : Hid ((Mg.uv u).take k1 = Mg.uv (u.take 9)) := Lib.hid (by rw [uv_take, HT.out.2.2.1, ← HP.out.1, take_min])
      have TKB : Hid ((bv b).take k4 = bv (b.take 9)) := Lib.hid (by rw [bv_take, HT.out.2.2.2, ← HP.out.2.2.2, take_min])
      have hrbl : w.heap.size ≤ rb := by omega
      have JS0 := JS
      have JN0 := JN
      clear hr hxs him
      rcases Nat.lt_or_ge i ns with hin | hin
      · -- loop over N
        have en : ((i : Int) < (ns : Int)) = True := eq_true (by omega)
        have e9 : ((i : Int) < 9) = False := eq_false (by omega)
        clear hin hgo
        go_upto_region 7 with fail
        clear JS0 JN0
        go_loopw [5] (fun v5 wx => ∃ (j : Nat) (VN : Value) (XN : List Value) (T : Nat → Nat) (np : List (List S)), v5 = .int .i64 (j : Nat) ∧ j ≤ min nn 14 ∧ Hid (FQ w.heap.size ob rb w.heap.size [.int .i64 k, .slice au nu cu, .slice aq ns cs, .slice an nn cn, .slice ab nb cb] k (.slice a1 k1 cu) (.slice a4 k4 cb) VS VN XS XN T np wx ∧ np = fN (n.take j) ∧ Below w.heap.size w wx)) (fun v _ => 15 - (intOf v).toNat)
        case atStart => exact ⟨0, _, _, _, [], rfl, Nat.zero_le _, Lib.hid ⟨HQ2.out.1, rfl, HQ2.out.2.2⟩⟩
        case round =>
          obtain ⟨j, VN, XN, T2, np, rfl, hj, hr⟩ := hrel
          have HXS := Lib.hid HQ2.out.2.1
          have hj14 : j ≤ 14 := by omega
          by_cases hgo : j < nn ∧ j < 14
          · obtain ⟨hgn, hg9⟩ := hgo
            obtain ⟨nvs, hnr, hnl, hnx⟩ := HV.out.1.n
            obtain ⟨l, hl⟩ : ∃ l, n[j]? = some l := ⟨_, List.getElem?_eq_getElem (by have := HP.out.2.2.1; omega)⟩
            obtain ⟨x, hx⟩ : ∃ x, nvs[j]? = some x := ⟨_, List.getElem?_eq_getElem (by rw [hnl]; have := HP.out.2.2.1; omega)⟩
            obtain ⟨a', k', c', rfl, hrs⟩ := hnx j x l hx hl
            obtain ⟨g, off, rfl, hg, -, -, hcw⟩ := hnr.at hx
            have hlk : l.length = k' := by rw [← Spl.sv_len]; exact hrs.len
            have HCX : Hid (∀ w', Below w.heap.size w w' → w'.cell? ⟨g, off + j, none⟩ = some (.slice a' k' c')) := Lib.hid fun w' hb => by rw [hb.cell (p := ⟨g, off + j, none⟩) hg]; exact hcw
            have HRS := Lib.hid (And.intro hrs hlk)
            have HNX := Lib.hid (fN_next n j l hl hg9)
            have m3 := hr.out.1.src.cell 3 _ rfl
            have cx0 := HCX.out _ hr.out.2.2
            have e14 : ((j : Int) < 14) = True := eq_true (by omega)
            have en : ((j : Int) < (nn : Int)) = True := eq_true (by omega)
            have H3 : Hid (FQ w.heap.size ob rb w.heap.size [.int .i64 k, .slice au nu cu, .slice aq ns cs, .slice (some ⟨g, off, none⟩) nn cn, .slice ab nb cb] k (.slice a1 k1 cu) (.slice a4 k4 cb) VS VN XS XN T2 np wr ∧ (Sg wr 1 (.slice none 0 0) ([] : List Value).length [] ∧ ∀ g, vblk (.slice none 0 0) = some g → T2 g = 5 + np.length ∧ w.heap.size ≤ g) ∧ ([] : List Value) = sv (fL (l.take 0)) ∧ Below w.heap.size w wr) := Lib.hid ⟨hr.out.1, ⟨Sg.nil _ _, fun g hg => by cases hg⟩, rfl, hr.out.2.2⟩
            have HNP := Lib.hid hr.out.2.1
            clear hnr hnl hnx hx hl hrs hcw hlk hg hr
            go_upto_region 11 with fail
            go_loopw [6, 7] (fun v6 v7 wx => ∃ (z : Nat) (xl : List Value) (T3 : Nat → Nat), v7 = .int .i64 (z : Nat) ∧ z ≤ min k' 6 ∧ Hid (FQ w.heap.size ob rb w.heap.size [.int .i64 k, .slice au nu cu, .slice aq ns cs, .slice (some ⟨g, off, none⟩) nn cn, .slice ab nb cb] k (.slice a1 k1 cu) (.slice a4 k4 cb) VS VN XS XN T3 np wx ∧ (Sg wx 1 v6 xl.length xl ∧ ∀ g, vblk v6 = some g → T3 g = 5 + np.length ∧ w.heap.size ≤ g) ∧ xl = sv (fL (l.take z)) ∧ Below w.heap.size w wx)) (fun _ v _ => 7 - (intOf v).toNat)
            case atStart => exact ⟨0, [], T2, rfl, Nat.zero_le _, H3⟩
            case round =>
             obtain ⟨z, xl, T3, rfl, hz, hr2⟩ := hrel
             clear H3 m3 cx0
             by_cases hgo2 : z < k' ∧ z < 6
             · obtain ⟨hgk, hg6⟩ := hgo2
               obtain ⟨hq2, hsl, hxl, hbw2⟩ := hr2.out
               obtain ⟨y, hy⟩ : ∃ y, l[z]? = some y := ⟨_, List.getElem?_eq_getElem (by rw [HRS.out.2]; exact hgk)⟩
               have hsy : (sv l)[z]? = some (.string (by8 y)) := by unfold sv; rw [List.getElem?_map, hy]; rfl
               obtain ⟨g2, off2, rfl, hg2, -, -, hcy⟩ := HRS.out.1.at hsy
               have cy : wr.cell? ⟨g2, off2 + z, none⟩ = some (.string (by8 y)) := by rw [hbw2.cell (p := ⟨g2, off2 + z, none⟩) hg2]; exact hcy
               have cx := HCX.out _ hbw2
               have m3 := hq2.src.cell 3 _ rfl
               obtain ⟨a6, c6, rfl⟩ : ∃ ao cp, u6 = .slice ao xl.length cp := let ⟨_, ao, cp, h, _⟩ := hsl.1; ⟨ao, cp, h⟩
               have NLX := Lib.hid (fL_next l z y hy hg6)
               have XLL : Hid (xl.length ≤ 6) := Lib.hid (by rw [hxl]; unfold sv fL; rw [List.length_map, List.length_map, List.length_take]; omega)
               have HX := Lib.hid hxl
               have b1 : xl.length + 1 ≤ maxLen := by have := XLL.out; unfold maxLen; omega
               have b2 : (xl.length + 1) * 16 ≤ 140737488355328 := by have := XLL.out; omega
               have Q9 : Hid (FQ w.heap.size ob rb w.heap.size [.int .i64 k, .slice au nu cu, .slice aq ns cs, .slice (some ⟨g, off, none⟩) nn cn, .slice ab nb cb] k (.slice a1 k1 cu) (.slice a4 k4 cb) VS VN XS XN T3 np (wr.alloc (.cells #[.string (by8 (y.take 70))] 9)) ∧ (Sg (wr.alloc (.cells #[.string (by8 (y.take 70))] 9)) 1 (.slice a6 xl.length c6) xl.length xl ∧ ∀ g, vblk (.slice a6 xl.length c6) = some g → T3 g = 5 + np.length ∧ w.heap.size ≤ g) ∧ Below w.heap.size w (wr.alloc (.cells #[.string (by8 (y.take 70))] 9))) := Lib.hid ⟨hq2.below (below1 wr _), ⟨hsl.1.below (below1 wr _), hsl.2⟩, hbw2.alloc hbw2.size _⟩
               have L9 := Lib.hid (Mg.lit_one wr 9 (.string (by8 (y.take 70))))
               have SV9 := Lib.hid Q9.out.2.1.1
               have CU := Lib.hid (fun w => cut_ok y 70 (by decide) w)
               have e14' : ((z : Int) < 6) = True := eq_true (by omega)
               have en' : ((z : Int) < (k' : Int)) = True := eq_true (by omega)
               clear hq2 hsl hxl hbw2 hy hsy hcy hg2 hr2
               go_wp2_with (first | (go_at_call 21; refine (CU.out _).mono ?_; rintro e w4 ⟨rfl, rfl⟩) | (at_builtin; refine wpList_append_any _ rfl (.tmp 72) (.tmp 82) 42 rfl 9 is (.string ⟨#[]⟩) 1 16 Tryz.underlying42 JS.out.1 JS.out.2.1 JS.out.2.2.1 JS.out.2.2.2 rfl (by decide) (.slice a6 xl.length c6) xl.length xl rfl SV9.out (.slice (some ⟨wr.heap.size, 0, none⟩) 1 1) 1 [.string (by8 (y.take 70))] rfl L9.out (Mg.one_of rfl) b1 b2 ?grow))
               case grow =>
                 intro v' w8 hs8 hv8 hk8
                 obtain ⟨ao', cp', hv'⟩ : ∃ ao cp, v' = .slice ao (xl.length + 1) cp := let ⟨_, ao, cp, h, _⟩ := hs8; ⟨ao, cp, h⟩
                 subst hv'
                 have h := Q9.out.1.pushL Q9.out.2.2.size Q9.out.2.1 hs8 (fun g hg => (hv8 g hg).imp id (fun h => by simpa using h)) hk8
                 have HD := Lib.hid (And.intro h.1 (And.intro h.2.1 (And.intro (show xl ++ [.string (by8 (y.take 70))] = sv (fL (l.take (z + 1))) by rw [NLX.out, HX.out]; simp [sv]) (Q9.out.2.2.trans h.2.2))))
                 clear h Q9 L9 SV9 hs8 hv8 hk8 b1 b2 cx cy m3
                 go_wp2_with fail
                 go_roundw
                 case rel => exact ⟨z + 1, _, _, by go_num, by omega, HD⟩
                 case measure => simp [intOf]; omega
             rcases Nat.lt_or_ge z k' with hzk | hzk
             · have hz6 : z ≤ 6 := by omega
               have hzm : z = min k' 6 := by omega
               have en : ((z : Int) < (k' : Int)) = True := eq_true (by omega)
               have e6 : ((z : Int) < 6) = False := eq_false (by omega)
               obtain ⟨hq2, ⟨hsl, htl⟩, hxl, hbw2⟩ := hr2.out
               obtain ⟨a6, c6, rfl, hrs6⟩ := Rs.of_sg (F := fun g => T3 g ≠ 5 + np.length ∨ g < w.heap.size) hsl (fun g hg e => by
                 have h := htl g hg
                 rcases e with e | e
                 · exact e h.1
                 · omega)
               have hxl2 : xl = sv (fL l) := by rw [hxl, fL_all l z (by rw [HRS.out.2]; exact hzm)]
               clear hzm
               obtain ⟨kl, hkl⟩ : ∃ kl, kl = xl.length := ⟨_, rfl⟩
               rw [← hkl] at hrs6 ⊢
               rw [hxl2] at hrs6
               have hq3 := hq2.blk.cell 3 _ rfl
               have hq3f := hq2.blk.free 3
               have m3 := hq2.src.cell 3 _ rfl
               have cx := HCX.out _ hbw2
               have XNL : Hid (XN.length ≤ 14) := Lib.hid (by rw [hq2.inl, HNP.out]; unfold fN; rw [List.length_map, List.length_take]; omega)
               have HQ8 := Lib.hid (And.intro hq2 (And.intro hrs6 hbw2))
               have b1 : XN.length + 1 ≤ maxLen := by have := XNL.out; unfold maxLen; omega
               have b2 : (XN.length + 1) * 24 ≤ 140737488355328 := by have := XNL.out; omega
               clear hr2 hq2 hsl htl hxl hbw2 hrs6 hxl2 hkl
               have Q9 : Hid (FQ w.heap.size ob rb w.heap.size [.int .i64 k, .slice au nu cu, .slice aq ns cs, .slice (some ⟨g, off, none⟩) nn cn, .slice ab nb cb] k (.slice a1 k1 cu) (.slice a4 k4 cb) VS VN XS XN T3 np (wr.alloc (.cells #[.slice a6 kl c6] 42)) ∧ Below w.heap.size w (wr.alloc (.cells #[.slice a6 kl c6] 42))) := Lib.hid ⟨HQ8.out.1.below (below1 wr _), HQ8.out.2.2.alloc HQ8.out.2.2.size _⟩
               have R9 := Lib.hid (HQ8.out.2.1.below (below1 wr (.cells #[.slice a6 kl c6] 42)))
               have L9 := Lib.hid (Mg.lit_one wr 42 (.slice a6 kl c6))
               have SV9 := Lib.hid Q9.out.1.n.1
               clear HQ8
               go_wp2_with (at_builtin; refine wpList_append_any _ rfl (.tmp 85) (.tmp 87) 43 rfl 42 ii (.slice none 0 0) 1 24 Tryz.underlying43 JN.out.1 JN.out.2.1 JN.out.2.2.1 JN.out.2.2.2 rfl (by decide) VN XN.length XN rfl SV9.out (.slice (some ⟨wr.heap.size, 0, none⟩) 1 1) 1 [.slice a6 kl c6] rfl L9.out (Mg.one_of rfl) b1 b2 ?grow)
               case grow =>
                 intro v' w8 hs8 hv8 hk8
                 obtain ⟨ao', cp', hv'⟩ : ∃ ao cp, v' = .slice ao (XN.length + 1) cp := let ⟨_, ao, cp, h, _⟩ := hs8; ⟨ao, cp, h⟩
                 subst hv'
                 have h := Q9.out.1.pushN Q9.out.2.size R9.out hs8 (fun g hg => (hv8 g hg).imp id (fun h => by simpa using h)) hk8 (Below.refl _ _)
                 have B := hk8.blk Q9.out.1.blk (fun e => by have := (Q9.out.1.n.2 _ e).1; have := Q9.out.1.t0.1; omega)
                 have cc := B.cell 3 _ rfl
                 have cf := B.free 3
                 have HD := Lib.hid (And.intro h.1 (And.intro (show np ++ [fL l] = fN (n.take (j + 1)) by rw [HNX.out, HNP.out]) (Q9.out.2.trans h.2)))
                 clear h B Q9 R9 L9 SV9 hs8 hv8 hk8 b1 b2
                 go_wp2_with fail
                 go_roundw
                 case rel => exact ⟨j + 1, _, _, _, _, by go_num, by omega, HD⟩
                 case measure => simp [intOf]; omega
             · have hz6 : z ≤ 6 := by omega
               have hzm : z = min k' 6 := by omega
               have en : ((z : Int) < (k' : Int)) = False := eq_false (by omega)
               obtain ⟨hq2, ⟨hsl, htl⟩, hxl, hbw2⟩ := hr2.out
               obtain ⟨a6, c6, rfl, hrs6⟩ := Rs.of_sg (F := fun g => T3 g ≠ 5 + np.length ∨ g < w.heap.size) hsl (fun g hg e => by
                 have h := htl g hg
                 rcases e with e | e
                 · exact e h.1
                 · omega)
               have hxl2 : xl = sv (fL l) := by rw [hxl, fL_all l z (by rw [HRS.out.2]; exact hzm)]
               clear hzm
               obtain ⟨kl, hkl⟩ : ∃ kl, kl = xl.length := ⟨_, rfl⟩
               rw [← hkl] at hrs6 ⊢
               rw [hxl2] at hrs6
               have hq3 := hq2.blk.cell 3 _ rfl
               have hq3f := hq2.blk.free 3
               have m3 := hq2.src.cell 3 _ rfl
               have cx := HCX.out _ hbw2
               have XNL : Hid (XN.length ≤ 14) := Lib.hid (by rw [hq2.inl, HNP.out]; unfold fN; rw [List.length_map, List.length_take]; omega)
               have HQ8 := Lib.hid (And.intro hq2 (And.intro hrs6 hbw2))
               have b1 : XN.length + 1 ≤ maxLen := by have := XNL.out; unfold maxLen; omega
               have b2 : (XN.length + 1) * 24 ≤ 140737488355328 := by have := XNL.out; omega
               clear hr2 hq2 hsl htl hxl hbw2 hrs6 hxl2 hkl
               have Q9 : Hid (FQ w.heap.size ob rb w.heap.size [.int .i64 k, .slice au nu cu, .slice aq ns cs, .slice (some ⟨g, off, none⟩) nn cn, .slice ab nb cb] k (.slice a1 k1 cu) (.slice a4 k4 cb) VS VN XS XN T3 np (wr.alloc (.cells #[.slice a6 kl c6] 42)) ∧ Below w.heap.size w (wr.alloc (.cells #[.slice a6 kl c6] 42))) := Lib.hid ⟨HQ8.out.1.below (below1 wr _), HQ8.out.2.2.alloc HQ8.out.2.2.size _⟩
               have R9 := Lib.hid (HQ8.out.2.1.below (below1 wr (.cells #[.slice a6 kl c6] 42)))
               have L9 := Lib.hid (Mg.lit_one wr 42 (.slice a6 kl c6))
               have SV9 := Lib.hid Q9.out.1.n.1
               clear HQ8
               go_wp2_with (at_builtin; refine wpList_append_any _ rfl (.tmp 85) (.tmp 87) 43 rfl 42 ii (.slice none 0 0) 1 24 Tryz.underlying43 JN.out.1 JN.out.2.1 JN.out.2.2.1 JN.out.2.2.2 rfl (by decide) VN XN.length XN rfl SV9.out (.slice (some ⟨wr.heap.size, 0, none⟩) 1 1) 1 [.slice a6 kl c6] rfl L9.out (Mg.one_of rfl) b1 b2 ?grow)
               case grow =>
                 intro v' w8 hs8 hv8 hk8
                 obtain ⟨ao', cp', hv'⟩ : ∃ ao cp, v' = .slice ao (XN.length + 1) cp := let ⟨_, ao, cp, h, _⟩ := hs8; ⟨ao, cp, h⟩
                 subst hv'
                 have h := Q9.out.1.pushN Q9.out.2.size R9.out hs8 (fun g hg => (hv8 g hg).imp id (fun h => by simpa using h)) hk8 (Below.refl _ _)
                 have B := hk8.blk Q9.out.1.blk (fun e => by have := (Q9.out.1.n.2 _ e).1; have := Q9.out.1.t0.1; omega)
                 have cc := B.cell 3 _ rfl
                 have cf := B.free 3
                 have HD := Lib.hid (And.intro h.1 (And.intro (show np ++ [fL l] = fN (n.take (j + 1)) by rw [HNX.out, HNP.out]) (Q9.out.2.trans h.2)))
                 clear h B Q9 R9 L9 SV9 hs8 hv8 hk8 b1 b2
                 go_wp2_with fail
                 go_roundw
                 case rel => exact ⟨j + 1, _, _, _, _, by go_num, by omega, HD⟩
                 case measure => simp [intOf]; omega
          · rcases Nat.lt_or_ge j nn with hjn | hjn
            · have hjm : j = min nn 14 := by omega
              have en : ((j : Int) < (nn : Int)) = True := eq_true (by omega)
              have e14 : ((j : Int) < 14) = False := eq_false (by omega)
              have HE : Hid (FQ w.heap.size ob rb w.heap.size [.int .i64 k, .slice au nu cu, .slice aq ns cs, .slice an nn cn, .slice ab nb cb] k (.slice a1 k1 cu) (.slice a4 k4 cb) VS VN XS XN T2 (fN n) wr ∧ XS = sv (fS s) ∧ Below w.heap.size w wr) := Lib.hid (by
                have h := hr.out
                rw [h.2.1, fN_all n j (by rw [HP.out.2.2.1]; exact hjm)] at h
                exact ⟨h.1, HXS.out, h.2.2⟩)
              have m3 := hr.out.1.src.cell 3 _ rfl
              clear hr HQ2 hjm
              obtain ⟨aq', an', ns', cs', nn', cn', rfl, rfl, hfv⟩ := HE.out.1.fin HV.out.2 HE.out.2.2 hrbl (by have h := HT.out.1; rw [TKU.out] at h; exact h) (by have h := HT.out.2.1; rw [TKB.out] at h; exact h) HE.out.2.1
              have BLK := HE.out.1.blk
              have RES := HE.out.1.res
              have ONE := Mg.sls_one k a1 aq' an' a4 k1 cu ns' cs' nn' cn' k4 cb
              have HFIN := Lib.hid (And.intro (RES.setRow [.int .i64 k, .slice a1 k1 cu, .slice aq' ns' cs', .slice an' nn' cn', .slice a4 k4 cb]) (And.intro ((hfv.keeps (Mg.keeps_row wr rb [.int .i64 k, .slice a1 k1 cu, .slice aq' ns' cs', .slice an' nn' cn', .slice a4 k4 cb].toArray) (fun g _ e => .inr e)).mono (F' := F) (fun _ _ e => .inl e)) (below_row HE.out.2.2 rb [.int .i64 k, .slice a1 k1 cu, .slice aq' ns' cs', .slice an' nn' cn', .slice a4 k4 cb].toArray hrbl)))
              clear hfv
              go_wp2_with (first | refine load_blk BLK Tryz.underlying46 rfl tR_size rfl rfl rfl rfl ?_ | refine store_blk (n := 5) (cs := [.int .i64 k, .slice a1 k1 cu, .slice aq' ns' cs', .slice an' nn' cn', .slice a4 k4 cb]) RES tR_size rfl rfl ONE rfl rfl rfl rfl ?_)
              refine ret_blk rfl HFIN.out.1 Tryz.underlying46 rfl tR_size rfl rfl rfl ?_
              exact ⟨⟨a1, aq', an', a4, k1, cu, ns', cs', nn', cn', k4, cb, rfl, HFIN.out.2.1⟩, HFIN.out.2.2⟩
            · have hjm : j = min nn 14 := by omega
              have en : ((j : Int) < (nn : Int)) = False := eq_false (by omega)
              have HE : Hid (FQ w.heap.size ob rb w.heap.size [.int .i64 k, .slice au nu cu, .slice aq ns cs, .slice an nn cn, .slice ab nb cb] k (.slice a1 k1 cu) (.slice a4 k4 cb) VS VN XS XN T2 (fN n) wr ∧ XS = sv (fS s) ∧ Below w.heap.size w wr) := Lib.hid (by
                have h := hr.out
                rw [h.2.1, fN_all n j (by rw [HP.out.2.2.1]; exact hjm)] at h
                exact ⟨h.1, HXS.out, h.2.2⟩)
              have m3 := hr.out.1.src.cell 3 _ rfl
              clear hr HQ2 hjm
              obtain ⟨aq', an', ns', cs', nn', cn', rfl, rfl, hfv⟩ := HE.out.1.fin HV.out.2 HE.out.2.2 hrbl (by have h := HT.out.1; rw [TKU.out] at h; exact h) (by have h := HT.out.2.1; rw [TKB.out] at h; exact h) HE.out.2.1
              have BLK := HE.out.1.blk
              have RES := HE.out.1.res
              have ONE := Mg.sls_one k a1 aq' an' a4 k1 cu ns' cs' nn' cn' k4 cb
              have HFIN := Lib.hid (And.intro (RES.setRow [.int .i64 k, .slice a1 k1 cu, .slice aq' ns' cs', .slice an' nn' cn', .slice a4 k4 cb]) (And.intro ((hfv.keeps (Mg.keeps_row wr rb [.int .i64 k, .slice a1 k1 cu, .slice aq' ns' cs', .slice an' nn' cn', .slice a4 k4 cb].toArray) (fun g _ e => .inr e)).mono (F' := F) (fun _ _ e => .inl e)) (below_row HE.out.2.2 rb [.int .i64 k, .slice a1 k1 cu, .slice aq' ns' cs', .slice an' nn' cn', .slice a4 k4 cb].toArray hrbl)))
              clear hfv
              go_wp2_with (first | refine load_blk BLK Tryz.underlying46 rfl tR_size rfl rfl rfl rfl ?_ | refine store_blk (n := 5) (cs := [.int .i64 k, .slice a1 k1 cu, .slice aq' ns' cs', .slice an' nn' cn', .slice a4 k4 cb]) RES tR_size rfl rfl ONE rfl rfl rfl rfl ?_)
              refine ret_blk rfl HFIN.out.1 Tryz.underlying46 rfl tR_size rfl rfl rfl ?_
              exact ⟨⟨a1, aq', an', a4, k1, cu, ns', cs', nn', cn', k4, cb, rfl, HFIN.out.2.1⟩, HFIN.out.2.2⟩
      · -- loop over N
        have en : ((i : Int) < (ns : Int)) = False := eq_false (by omega)
        clear hin hgo
        go_upto_region 7 with fail
        clear JS0 JN0
        go_loopw [5] (fun v5 wx => ∃ (j : Nat) (VN : Value) (XN : List Value) (T : Nat → Nat) (np : List (List S)), v5 = .int .i64 (j : Nat) ∧ j ≤ min nn 14 ∧ Hid (FQ w.heap.size ob rb w.heap.size [.int .i64 k, .slice au nu cu, .slice aq ns cs, .slice an nn cn, .slice ab nb cb] k (.slice a1 k1 cu) (.slice a4 k4 cb) VS VN XS XN T np wx ∧ np = fN (n.take j) ∧ Below w.heap.size w wx)) (fun v _ => 15 - (intOf v).toNat)
        case atStart => exact ⟨0, _, _, _, [], rfl, Nat.zero_le _, Lib.hid ⟨HQ2.out.1, rfl, HQ2.out.2.2⟩⟩
        case round =>
          obtain ⟨j, VN, XN, T2, np, rfl, hj, hr⟩ := hrel
          have HXS := Lib.hid HQ2.out.2.1
          have hj14 : j ≤ 14 := by omega
          by_cases hgo : j < nn ∧ j < 14
          · obtain ⟨hgn, hg9⟩ := hgo
            obtain ⟨nvs, hnr, hnl, hnx⟩ := HV.out.1.n
            obtain ⟨l, hl⟩ : ∃ l, n[j]? = some l := ⟨_, List.getElem?_eq_getElem (by have := HP.out.2.2.1; omega)⟩
            obtain ⟨x, hx⟩ : ∃ x, nvs[j]? = some x := ⟨_, List.getElem?_eq_getElem (by rw [hnl]; have := HP.out.2.2.1; omega)⟩
            obtain ⟨a', k', c', rfl, hrs⟩ := hnx j x l hx hl
            obtain ⟨g, off, rfl, hg, -, -, hcw⟩ := hnr.at hx
            have hlk : l.length = k' := by rw [← Spl.sv_len]; exact hrs.len
            have HCX : Hid (∀ w', Below w.heap.size w w' → w'.cell? ⟨g, off + j, none⟩ = some (.slice a' k' c')) := Lib.hid fun w' hb => by rw [hb.cell (p := ⟨g, off + j, none⟩) hg]; exact hcw
            have HRS := Lib.hid (And.intro hrs hlk)
            have HNX := Lib.hid (fN_next n j l hl hg9)
            have m3 := hr.out.1.src.cell 3 _ rfl
            have cx0 := HCX.out _ hr.out.2.2
            have e14 : ((j : Int) < 14) = True := eq_true (by omega)
            have en : ((j : Int) < (nn : Int)) = True := eq_true (by omega)
            have H3 : Hid (FQ w.heap.size ob rb w.heap.size [.int .i64 k, .slice au nu cu, .slice aq ns cs, .slice (some ⟨g, off, none⟩) nn cn, .slice ab nb cb] k (.slice a1 k1 cu) (.slice a4 k4 cb) VS VN XS XN T2 np wr ∧ (Sg wr 1 (.slice none 0 0) ([] : List Value).length [] ∧ ∀ g, vblk (.slice none 0 0) = some g → T2 g = 5 + np.length ∧ w.heap.size ≤ g) ∧ ([] : List Value) = sv (fL (l.take 0)) ∧ Below w.heap.size w wr) := Lib.hid ⟨hr.out.1, ⟨Sg.nil _ _, fun g hg => by cases hg⟩, rfl, hr.out.2.2⟩
            have HNP := Lib.hid hr.out.2.1
            clear hnr hnl hnx hx hl hrs hcw hlk hg hr
            go_upto_region 11 with fail
            go_loopw [6, 7] (fun v6 v7 wx => ∃ (z : Nat) (xl : List Value) (T3 : Nat → Nat), v7 = .int .i64 (z : Nat) ∧ z ≤ min k' 6 ∧ Hid (FQ w.heap.size ob rb w.heap.size [.int .i64 k, .slice au nu cu, .slice aq ns cs, .slice (some ⟨g, off, none⟩) nn cn, .slice ab nb cb] k (.slice a1 k1 cu) (.slice a4 k4 cb) VS VN XS XN T3 np wx ∧ (Sg wx 1 v6 xl.length xl ∧ ∀ g, vblk v6 = some g → T3 g = 5 + np.length ∧ w.heap.size ≤ g) ∧ xl = sv (fL (l.take z)) ∧ Below w.heap.size w wx)) (fun _ v _ => 7 - (intOf v).toNat)
            case atStart => exact ⟨0, [], T2, rfl, Nat.zero_le _, H3⟩
            case round =>
             obtain ⟨z, xl, T3, rfl, hz, hr2⟩ := hrel
             clear H3 m3 cx0
             by_cases hgo2 : z < k' ∧ z < 6
             · obtain ⟨hgk, hg6⟩ := hgo2
               obtain ⟨hq2, hsl, hxl, hbw2⟩ := hr2.out
               obtain ⟨y, hy⟩ : ∃ y, l[z]? = some y := ⟨_, List.getElem?_eq_getElem (by rw [HRS.out.2]; exact hgk)⟩
               have hsy : (sv l)[z]? = some (.string (by8 y)) := by unfold sv; rw [List.getElem?_map, hy]; rfl
               obtain ⟨g2, off2, rfl, hg2, -, -, hcy⟩ := HRS.out.1.at hsy
               have cy : wr.cell? ⟨g2, off2 + z, none⟩ = some (.string (by8 y)) := by rw [hbw2.cell (p := ⟨g2, off2 + z, none⟩) hg2]; exact hcy
               have cx := HCX.out _ hbw2
               have m3 := hq2.src.cell 3 _ rfl
               obtain ⟨a6, c6, rfl⟩ : ∃ ao cp, u6 = .slice ao xl.length cp := let ⟨_, ao, cp, h, _⟩ := hsl.1; ⟨ao, cp, h⟩
               have NLX := Lib.hid (fL_next l z y hy hg6)
               have XLL : Hid (xl.length ≤ 6) := Lib.hid (by rw [hxl]; unfold sv fL; rw [List.length_map, List.length_map, List.length_take]; omega)
               have HX := Lib.hid hxl
               have b1 : xl.length + 1 ≤ maxLen := by have := XLL.out; unfold maxLen; omega
               have b2 : (xl.length + 1) * 16 ≤ 140737488355328 := by have := XLL.out; omega
               have Q9 : Hid (FQ w.heap.size ob rb w.heap.size [.int .i64 k, .slice au nu cu, .slice aq ns cs, .slice (some ⟨g, off, none⟩) nn cn, .slice ab nb cb] k (.slice a1 k1 cu) (.slice a4 k4 cb) VS VN XS XN T3 np (wr.alloc (.cells #[.string (by8 (y.take 70))] 9)) ∧ (Sg (wr.alloc (.cells #[.string (by8 (y.take 70))] 9)) 1 (.slice a6 xl.length c6) xl.length xl ∧ ∀ g, vblk (.slice a6 xl.length c6) = some g → T3 g = 5 + np.length ∧ w.heap.size ≤ g) ∧ Below w.heap.size w (wr.alloc (.cells #[.string (by8 (y.take 70))] 9))) := Lib.hid ⟨hq2.below (below1 wr _), ⟨hsl.1.below (below1 wr _), hsl.2⟩, hbw2.alloc hbw2.size _⟩
               have L9 := Lib.hid (Mg.lit_one wr 9 (.string (by8 (y.take 70))))
               have SV9 := Lib.hid Q9.out.2.1.1
               have CU := Lib.hid (fun w => cut_ok y 70 (by decide) w)
               have e14' : ((z : Int) < 6) = True := eq_true (by omega)
               have en' : ((z : Int) < (k' : Int)) = True := eq_true (by omega)
               clear hq2 hsl hxl hbw2 hy hsy hcy hg2 hr2
               go_wp2_with (first | (go_at_call 21; refine (CU.out _).mono ?_; rintro e w4 ⟨rfl, rfl⟩) | (at_builtin; refine wpList_append_any _ rfl (.tmp 72) (.tmp 82) 42 rfl 9 is (.string ⟨#[]⟩) 1 16 Tryz.underlying42 JS.out.1 JS.out.2.1 JS.out.2.2.1 JS.out.2.2.2 rfl (by decide) (.slice a6 xl.length c6) xl.length xl rfl SV9.out (.slice (some ⟨wr.heap.size, 0, none⟩) 1 1) 1 [.string (by8 (y.take 70))] rfl L9.out (Mg.one_of rfl) b1 b2 ?grow))
               case grow =>
                 intro v' w8 hs8 hv8 hk8
                 obtain ⟨ao', cp', hv'⟩ : ∃ ao cp, v' = .slice ao (xl.length + 1) cp := let ⟨_, ao, cp, h, _⟩ := hs8; ⟨ao, cp, h⟩
                 subst hv'
                 have h := Q9.out.1.pushL Q9.out.2.2.size Q9.out.2.1 hs8 (fun g hg => (hv8 g hg).imp id (fun h => by simpa using h)) hk8
                 have HD := Lib.hid (And.intro h.1 (And.intro h.2.1 (And.intro (show xl ++ [.string (by8 (y.take 70))] = sv (fL (l.take (z + 1))) by rw [NLX.out, HX.out]; simp [sv]) (Q9.out.2.2.trans h.2.2))))
                 clear h Q9 L9 SV9 hs8 hv8 hk8 b1 b2 cx cy m3
                 go_wp2_with fail
                 go_roundw
                 case rel => exact ⟨z + 1, _, _, by go_num, by omega, HD⟩
                 case measure => simp [intOf]; omega
             rcases Nat.lt_or_ge z k' with hzk | hzk
             · have hz6 : z ≤ 6 := by omega
               have hzm : z = min k' 6 := by omega
               have en : ((z : Int) < (k' : Int)) = True := eq_true (by omega)
               have e6 : ((z : Int) < 6) = False := eq_false (by omega)
               obtain ⟨hq2, ⟨hsl, htl⟩, hxl, hbw2⟩ := hr2.out
               obtain ⟨a6, c6, rfl, hrs6⟩ := Rs.of_sg (F := fun g => T3 g ≠ 5 + np.length ∨ g < w.heap.size) hsl (fun g hg e => by
                 have h := htl g hg
                 rcases e with e | e
                 · exact e h.1
                 · omega)
               have hxl2 : xl = sv (fL l) := by rw [hxl, fL_all l z (by rw [HRS.out.2]; exact hzm)]
               clear hzm
               obtain ⟨kl, hkl⟩ : ∃ kl, kl = xl.length := ⟨_, rfl⟩
               rw [← hkl] at hrs6 ⊢
               rw [hxl2] at hrs6
               have hq3 := hq2.blk.cell 3 _ rfl
               have hq3f := hq2.blk.free 3
               have m3 := hq2.src.cell 3 _ rfl
               have cx := HCX.out _ hbw2
               have XNL : Hid (XN.length ≤ 14) := Lib.hid (by rw [hq2.inl, HNP.out]; unfold fN; rw [List.length_map, List.length_take]; omega)
               have HQ8 := Lib.hid (And.intro hq2 (And.intro hrs6 hbw2))
               have b1 : XN.length + 1 ≤ maxLen := by have := XNL.out; unfold maxLen; omega
               have b2 : (XN.length + 1) * 24 ≤ 140737488355328 := by have := XNL.out; omega
               clear hr2 hq2 hsl htl hxl hbw2 hrs6 hxl2 hkl
               have Q9 : Hid (FQ w.heap.size ob rb w.heap.size [.int .i64 k, .slice au nu cu, .slice aq ns cs, .slice (some ⟨g, off, none⟩) nn cn, .slice ab nb cb] k (.slice a1 k1 cu) (.slice a4 k4 cb) VS VN XS XN T3 np (wr.alloc (.cells #[.slice a6 kl c6] 42)) ∧ Below w.heap.size w (wr.alloc (.cells #[.slice a6 kl c6] 42))) := Lib.hid ⟨HQ8.out.1.below (below1 wr _), HQ8.out.2.2.alloc HQ8.out.2.2.size _⟩
               have R9 := Lib.hid (HQ8.out.2.1.below (below1 wr (.cells #[.slice a6 kl c6] 42)))
               have L9 := Lib.hid (Mg.lit_one wr 42 (.slice a6 kl c6))
               have SV9 := Lib.hid Q9.out.1.n.1
               clear HQ8
               go_wp2_with (at_builtin; refine wpList_append_any _ rfl (.tmp 85) (.tmp 87) 43 rfl 42 ii (.slice none 0 0) 1 24 Tryz.underlying43 JN.out.1 JN.out.2.1 JN.out.2.2.1 JN.out.2.2.2 rfl (by decide) VN XN.length XN rfl SV9.out (.slice (some ⟨wr.heap.size, 0, none⟩) 1 1) 1 [.slice a6 kl c6] rfl L9.out (Mg.one_of rfl) b1 b2 ?grow)
               case grow =>
                 intro v' w8 hs8 hv8 hk8
                 obtain ⟨ao', cp', hv'⟩ : ∃ ao cp, v' = .slice ao (XN.length + 1) cp := let ⟨_, ao, cp, h, _⟩ := hs8; ⟨ao, cp, h⟩
                 subst hv'
                 have h := Q9.out.1.pushN Q9.out.2.size R9.out hs8 (fun g hg => (hv8 g hg).imp id (fun h => by simpa using h)) hk8 (Below.refl _ _)
                 have B := hk8.blk Q9.out.1.blk (fun e => by have := (Q9.out.1.n.2 _ e).1; have := Q9.out.1.t0.1; omega)
                 have cc := B.cell 3 _ rfl
                 have cf := B.free 3
                 have HD := Lib.hid (And.intro h.1 (And.intro (show np ++ [fL l] = fN (n.take (j + 1)) by rw [HNX.out, HNP.out]) (Q9.out.2.trans h.2)))
                 clear h B Q9 R9 L9 SV9 hs8 hv8 hk8 b1 b2
                 go_wp2_with fail
                 go_roundw
                 case rel => exact ⟨j + 1, _, _, _, _, by go_num, by omega, HD⟩
                 case measure => simp [intOf]; omega
             · have hz6 : z ≤ 6 := by omega
               have hzm : z = min k' 6 := by omega
               have en : ((z : Int) < (k' : Int)) = False := eq_false (by omega)
               obtain ⟨hq2, ⟨hsl, htl⟩, hxl, hbw2⟩ := hr2.out
               obtain ⟨a6, c6, rfl, hrs6⟩ := Rs.of_sg (F := fun g => T3 g ≠ 5 + np.length ∨ g < w.heap.size) hsl (fun g hg e => by
                 have h := htl g hg
                 rcases e with e | e
                 · exact e h.1
                 · omega)
               have hxl2 : xl = sv (fL l) := by rw [hxl, fL_all l z (by rw [HRS.out.2]; exact hzm)]
               clear hzm
               obtain ⟨kl, hkl⟩ : ∃ kl, kl = xl.length := ⟨_, rfl⟩
               rw [← hkl] at hrs6 ⊢
               rw [hxl2] at hrs6
               have hq3 := hq2.blk.cell 3 _ rfl
               have hq3f := hq2.blk.free 3
               have m3 := hq2.src.cell 3 _ rfl
               have cx := HCX.out _ hbw2
               have XNL : Hid (XN.length ≤ 14) := Lib.hid (by rw [hq2.inl, HNP.out]; unfold fN; rw [List.length_map, List.length_take]; omega)
               have HQ8 := Lib.hid (And.intro hq2 (And.intro hrs6 hbw2))
               have b1 : XN.length + 1 ≤ maxLen := by have := XNL.out; unfold maxLen; omega
               have b2 : (XN.length + 1) * 24 ≤ 140737488355328 := by have := XNL.out; omega
               clear hr2 hq2 hsl htl hxl hbw2 hrs6 hxl2 hkl
               have Q9 : Hid (FQ w.heap.size ob rb w.heap.size [.int .i64 k, .slice au nu cu, .slice aq ns cs, .slice (some ⟨g, off, none⟩) nn cn, .slice ab nb cb] k (.slice a1 k1 cu) (.slice a4 k4 cb) VS VN XS XN T3 np (wr.alloc (.cells #[.slice a6 kl c6] 42)) ∧ Below w.heap.size w (wr.alloc (.cells #[.slice a6 kl c6] 42))) := Lib.hid ⟨HQ8.out.1.below (below1 wr _), HQ8.out.2.2.alloc HQ8.out.2.2.size _⟩
               have R9 := Lib.hid (HQ8.out.2.1.below (below1 wr (.cells #[.slice a6 kl c6] 42)))
               have L9 := Lib.hid (Mg.lit_one wr 42 (.slice a6 kl c6))
               have SV9 := Lib.hid Q9.out.1.n.1
               clear HQ8
               go_wp2_with (at_builtin; refine wpList_append_any _ rfl (.tmp 85) (.tmp 87) 43 rfl 42 ii (.slice none 0 0) 1 24 Tryz.underlying43 JN.out.1 JN.out.2.1 JN.out.2.2.1 JN.out.2.2.2 rfl (by decide) VN XN.length XN rfl SV9.out (.slice (some ⟨wr.heap.size, 0, none⟩) 1 1) 1 [.slice a6 kl c6] rfl L9.out (Mg.one_of rfl) b1 b2 ?grow)
               case grow =>
                 intro v' w8 hs8 hv8 hk8
                 obtain ⟨ao', cp', hv'⟩ : ∃ ao cp, v' = .slice ao (XN.length + 1) cp := let ⟨_, ao, cp, h, _⟩ := hs8; ⟨ao, cp, h⟩
                 subst hv'
                 have h := Q9.out.1.pushN Q9.out.2.size R9.out hs8 (fun g hg => (hv8 g hg).imp id (fun h => by simpa using h)) hk8 (Below.refl _ _)
                 have B := hk8.blk Q9.out.1.blk (fun e => by have := (Q9.out.1.n.2 _ e).1; have := Q9.out.1.t0.1; omega)
                 have cc := B.cell 3 _ rfl
                 have cf := B.free 3
                 have HD := Lib.hid (And.intro h.1 (And.intro (show np ++ [fL l] = fN (n.take (j + 1)) by rw [HNX.out, HNP.out]) (Q9.out.2.trans h.2)))
                 clear h B Q9 R9 L9 SV9 hs8 hv8 hk8 b1 b2
                 go_wp2_with fail
                 go_roundw
                 case rel => exact ⟨j + 1, _, _, _, _, by go_num, by omega, HD⟩
                 case measure => simp [intOf]; omega
          · rcases Nat.lt_or_ge j nn with hjn | hjn
            · have hjm : j = min nn 14 := by omega
              have en : ((j : Int) < (nn : Int)) = True := eq_true (by omega)
              have e14 : ((j : Int) < 14) = False := eq_false (by omega)
              have HE : Hid (FQ w.heap.size ob rb w.heap.size [.int .i64 k, .slice au nu cu, .slice aq ns cs, .slice an nn cn, .slice ab nb cb] k (.slice a1 k1 cu) (.slice a4 k4 cb) VS VN XS XN T2 (fN n) wr ∧ XS = sv (fS s) ∧ Below w.heap.size w wr) := Lib.hid (by
                have h := hr.out
                rw [h.2.1, fN_all n j (by rw [HP.out.2.2.1]; exact hjm)] at h
                exact ⟨h.1, HXS.out, h.2.2⟩)
              have m3 := hr.out.1.src.cell 3 _ rfl
              clear hr HQ2 hjm
              obtain ⟨aq', an', ns', cs', nn', cn', rfl, rfl, hfv⟩ := HE.out.1.fin HV.out.2 HE.out.2.2 hrbl (by have h := HT.out.1; rw [TKU.out] at h; exact h) (by have h := HT.out.2.1; rw [TKB.out] at h; exact h) HE.out.2.1
              have BLK := HE.out.1.blk
              have RES := HE.out.1.res
              have ONE := Mg.sls_one k a1 aq' an' a4 k1 cu ns' cs' nn' cn' k4 cb
              have HFIN := Lib.hid (And.intro (RES.setRow [.int .i64 k, .slice a1 k1 cu, .slice aq' ns' cs', .slice an' nn' cn', .slice a4 k4 cb]) (And.intro ((hfv.keeps (Mg.keeps_row wr rb [.int .i64 k, .slice a1 k1 cu, .slice aq' ns' cs', .slice an' nn' cn', .slice a4 k4 cb].toArray) (fun g _ e => .inr e)).mono (F' := F) (fun _ _ e => .inl e)) (below_row HE.out.2.2 rb [.int .i64 k, .slice a1 k1 cu, .slice aq' ns' cs', .slice an' nn' cn', .slice a4 k4 cb].toArray hrbl)))
              clear hfv
              go_wp2_with (first | refine load_blk BLK Tryz.underlying46 rfl tR_size rfl rfl rfl rfl ?_ | refine store_blk (n := 5) (cs := [.int .i64 k, .slice a1 k1 cu, .slice aq' ns' cs', .slice an' nn' cn', .slice a4 k4 cb]) RES tR_size rfl rfl ONE rfl rfl rfl rfl ?_)
              refine ret_blk rfl HFIN.out.1 Tryz.underlying46 rfl tR_size rfl rfl rfl ?_
              exact ⟨⟨a1, aq', an', a4, k1, cu, ns', cs', nn', cn', k4, cb, rfl, HFIN.out.2.1⟩, HFIN.out.2.2⟩
            · have hjm : j = min nn 14 := by omega
              have en : ((j : Int) < (nn : Int)) = False := eq_false (by omega)
              have HE : Hid (FQ w.heap.size ob rb w.heap.size [.int .i64 k, .slice au nu cu, .slice aq ns cs, .slice an nn cn, .slice ab nb cb] k (.slice a1 k1 cu) (.slice a4 k4 cb) VS VN XS XN T2 (fN n) wr ∧ XS = sv (fS s) ∧ Below w.heap.size w wr) := Lib.hid (by
                have h := hr.out
                rw [h.2.1, fN_all n j (by rw [HP.out.2.2.1]; exact hjm)] at h
                exact ⟨h.1, HXS.out, h.2.2⟩)
              have m3 := hr.out.1.src.cell 3 _ rfl
              clear hr HQ2 hjm
              obtain ⟨aq', an', ns', cs', nn', cn', rfl, rfl, hfv⟩ := HE.out.1.fin HV.out.2 HE.out.2.2 hrbl (by have h := HT.out.1; rw [TKU.out] at h; exact h) (by have h := HT.out.2.1; rw [TKB.out] at h; exact h) HE.out.2.1
              have BLK := HE.out.1.blk
              have RES := HE.out.1.res
              have ONE := Mg.sls_one k a1 aq' an' a4 k1 cu ns' cs' nn' cn' k4 cb
              have HFIN := Lib.hid (And.intro (RES.setRow [.int .i64 k, .slice a1 k1 cu, .slice aq' ns' cs', .slice an' nn' cn', .slice a4 k4 cb]) (And.intro ((hfv.keeps (Mg.keeps_row wr rb [.int .i64 k, .slice a1 k1 cu, .slice aq' ns' cs', .slice an' nn' cn', .slice a4 k4 cb].toArray) (fun g _ e => .inr e)).mono (F' := F) (fun _ _ e => .inl e)) (below_row HE.out.2.2 rb [.int .i64 k, .slice a1 k1 cu, .slice aq' ns' cs', .slice an' nn' cn', .slice a4 k4 cb].toArray hrbl)))
              clear hfv
              go_wp2_with (first | refine load_blk BLK Tryz.underlying46 rfl tR_size rfl rfl rfl rfl ?_ | refine store_blk (n := 5) (cs := [.int .i64 k, .slice a1 k1 cu, .slice aq' ns' cs', .slice an' nn' cn', .slice a4 k4 cb]) RES tR_size rfl rfl ONE rfl rfl rfl rfl ?_)
              refine ret_blk rfl HFIN.out.1 Tryz.underlying46 rfl tR_size rfl rfl rfl ?_
              exact ⟨⟨a1, aq', an', a4, k1, cu, ns', cs', nn', cn', k4, cb, rfl, HFIN.out.2.1⟩, HFIN.out.2.2⟩
end Fe
end Go.Proofs.YtcbkbjpdfanjpaaGreatDoor
