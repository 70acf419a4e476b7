/-
term: Parse, Text, Kind, Parts; the law's Of.
The laws' Of: a text's term.
SpeakValues, walked.
-/
import Derived.Test.YtkhdhiddhnmdkaaGreatDoorPk47
import Derived.Test.YtkhdhiddhnmdkaaGreatDoorPk16
import Derived.Test.YtkhdhiddhnmdkaaGreatDoorPk46
namespace Go.Proofs.YtkhdhiddhnmdkaaGreatDoor
open Go.RowKit Tm
set_option maxRecDepth 100000
namespace Tv
abbrev tE : TypeId := 184
/-- the sentinel lies in its variable -/
def ErrAt (w : World) : Prop := ∃ a, w.cell? ⟨1, 0, none⟩ = some (.iface tE (.pointer (some a)))
theorem cell_lt2 {W : World} {g i : Nat} {v : Value} (h : W.cell? ⟨g, i, none⟩ = some v) : g < W.heap.size := by
  rcases Nat.lt_or_ge g W.heap.size with h' | h'
  · exact h'
  · simp [World.cell?, Array.getElem?_eq_none h'] at h
theorem ErrAt.below {w w' : World} (h : ErrAt w) (hb : Below w.heap.size w w') : ErrAt w' := by
  obtain ⟨a, h⟩ := h
  exact ⟨a, by rw [hb.cell (cell_lt2 h)]; exact h⟩
set_option maxHeartbeats 2000000 in
theorem text_ok (k t : S) (v : Value) (w : World) : Calls Tryz.prog 7 #[tmv k t v] w fun e w' => e = .returned (.string (by8 t)) ∧ Below w.heap.size w w' := by
  unfold tmv
  go_enter Tryz.func7, Tryz.ntmps7
  go_upto_region 1 with fail
  refine wp_gen (fun wx => Blk wx w.heap.size tT [.string (by8 k), .string (by8 t), v] ∧ Below w.heap.size w wx) ⟨Blk.new w tT [.string (by8 k), .string (by8 t), v], below1 _ _⟩ ?_
  rintro w1 ⟨O, BW⟩
  have c1 := O.cell 1 _ rfl
  go_wp2_with fail
  go_ret
  exact ⟨rfl, BW⟩
set_option maxHeartbeats 2000000 in
theorem kind_ok (k t : S) (v : Value) (w : World) : Calls Tryz.prog 9 #[tmv k t v] w fun e w' => e = .returned (.string (by8 k)) ∧ Below w.heap.size w w' := by
  unfold tmv
  go_enter Tryz.func9, Tryz.ntmps9
  go_upto_region 1 with fail
  refine wp_gen (fun wx => Blk wx w.heap.size tT [.string (by8 k), .string (by8 t), v] ∧ Below w.heap.size w wx) ⟨Blk.new w tT [.string (by8 k), .string (by8 t), v], below1 _ _⟩ ?_
  rintro w1 ⟨O, BW⟩
  have c1 := O.cell 0 _ rfl
  go_wp2_with fail
  go_ret
  exact ⟨rfl, BW⟩
set_option maxHeartbeats 2000000 in
theorem parts_ok (k t : S) (v : Value) (l : List Row) (w : World) (hp : PT w v l) (hn : 0 < l.length) (hl : l.length ≤ 100) :
    Calls Tryz.prog 11 #[tmv k t v] w fun e w' => ∃ v', e = .returned v' ∧ PT w' v' l ∧ (∀ g, vblk v' = some g → w.heap.size ≤ g) ∧ Below w.heap.size w w' := by
  unfold tmv
  go_enter Tryz.func11, Tryz.ntmps11
  go_upto_region 1 with fail
  refine wp_gen (fun wx => Blk wx w.heap.size tT [.string (by8 k), .string (by8 t), v] ∧ Below w.heap.size w wx) ⟨Blk.new w tT [.string (by8 k), .string (by8 t), v], below1 _ _⟩ ?_
  rintro w1 ⟨O, BW⟩
  have c1 := O.cell 2 _ rfl
  have P1 := Lib.hid (hp.below BW)
  clear hp
  go_wp2_with (go_at_call 17; refine (clone_ok v l w1 P1.out hn hl).mono ?_; rintro e w2 ⟨v2, rfl, P2, F2, hb⟩)
  go_ret
  exact ⟨v2, rfl, P2, fun g hg => Nat.le_trans BW.size (F2 g hg), BW.trans (hb.mono BW.size)⟩
/-- what Parse gives -/
def PPost (s : S) (w : World) (e : Ending) (w' : World) : Prop :=
  (∀ t, rd (s.length + 1) s = some (t, []) → ∃ v l, e = .returned (.tuple #[tmv (kd t) (txt (cn lt t)) v, .nilIface]) ∧ PT w' v l ∧ txs l = kids (cn lt t)) ∧
  ((∀ t, rd (s.length + 1) s ≠ some (t, [])) → ∃ a, e = .returned (.tuple #[tmv [] [] (.slice none 0 0), .iface tE (.pointer (some a))])) ∧ Below w.heap.size w w'
set_option maxHeartbeats 8000000 in
theorem parse_ok (s : S) (w : World) (hs : s.length ≤ 1000) (hE : ErrAt w) : Calls Tryz.prog 5 #[.string (by8 s)] w fun e w' => PPost s w e w' := by
  have hsz : (by8 s).size = s.length := by8_size s
  have TO := term_all (s.length + 1) s
  go_enter Tryz.func5, Tryz.ntmps5
  go_upto_region 4 with fail
  refine wp_gen (fun wx => Blk wx w.heap.size tT zT ∧ Blk wx (w.heap.size + 1) tR [.string (by8 s)] ∧ Below w.heap.size w wx) ⟨(Blk.new w tT zT).alloc _, Blk.new2 _ _ tR [.string (by8 s)], below2 _ _ _⟩ ?_
  rintro w1 ⟨O2, R, BW⟩
  have T1 := TO (w.heap.size + 1) w1 (by omega) hs R
  have hE1 := hE.below BW
  have hE0 : 1 < w.heap.size := by obtain ⟨a, h⟩ := hE; exact cell_lt2 h
  cases hrd : rd (s.length + 1) s with
  | none =>
    rw [hrd] at T1
    have ONEz := zT_one
    have FIN : Hid (∀ w', Below w.heap.size w w' → ∀ a, PPost s w (.returned (.tuple #[.agg #[.string ⟨#[]⟩, .string ⟨#[]⟩, .slice none 0 0], .iface tE (.pointer (some a))])) w') := Lib.hid fun w' hb a =>
      ⟨fun t h => (by rw [hrd] at h; cases h), fun _ => ⟨a, rfl⟩, hb⟩
    clear hrd TO
    go_wp2_with fail
    refine T1.mono ?_
    rintro e w2 ⟨k6, t6, v6, q6, rfl, hsl6, R2, K2⟩
    have ONE6 := sl_one k6 t6 v6 hsl6
    have B2 := K2.below BW.size (fun k _ e => by omega)
    have BW2 := BW.trans B2
    have O22 := K2.blk O2 (by omega)
    have sz2 : w.heap.size < w2.heap.size := O22.lt
    have hE2 := hE.below BW2
    go_upto_region 6 with (refine store_blk (n := 3) (cs := [.string (by8 k6), .string (by8 t6), v6]) (Blk.new w2 tT zT) t_size rfl rfl ONE6 rfl rfl rfl rfl ?_)
    refine wp_gen (fun wx => Blk wx w.heap.size tT zT ∧ Below w.heap.size w wx ∧ ErrAt wx) ⟨(O22.alloc _).farRow (by omega) _, below_row (BW2.alloc BW2.size _) _ _ (by omega), hE2.below (below_row (below1 w2 _) _ _ (Nat.le_refl _))⟩ ?_
    rintro w5 ⟨O5, B5, hE5⟩
    obtain ⟨a, hca⟩ := hE5
    have hlt5 := cell_lt2 hca
    have hgne : 1 ≠ w.heap.size := by have := hE0; omega
    have D5 : Below w5.heap.size w5 w5.drew := below_drewN (Below.refl _ _) 1
    have hcd : ∀ w', Keeps (fun k => k = w.heap.size) w5.drew w' → w'.cell? ⟨1, 0, none⟩ = some (.iface tE (.pointer (some a))) := fun w' hk => by
      exact hk.cell (p := ⟨1, 0, none⟩) (by rw [D5.cell hlt5]; exact hca) hgne
    have M2 := O5.below D5 O5.lt
    have BD := B5.trans (D5.mono B5.size)
    (refine Pl.wp_region_plan (fun k => k = w.heap.size) [(true, 0), (true, 1), (false, 2), (true, 3)] (by kernel_rfl) (by kernel_rfl) ?_)
    (refine Pl.plan_head (i := 0) rfl (fun K hK => ?_); refine Pl.plan_plain (.agg #[.string ⟨#[]⟩, .string ⟨#[]⟩, .slice none 0 0]) (by first | rfl | simp [Region.wanted, yielded]) (fun w' hw' => by go_simp) ?_; go_simp; (with_reducible apply hK); clear hK K)
    (refine Pl.plan_head (i := 1) rfl (fun K hK => ?_); refine Pl.plan_plain (.iface tE (.pointer (some a))) (by first | rfl | simp [Region.wanted, yielded]) (fun w' hw' => by have h := hcd w' hw'; go_simp; try simp [h]) ?_; go_simp; (with_reducible apply hK); clear hK K)
    refine Pl.plan_sole (i := 2) rfl (fun w6 h6 Q hQ => ?_)
    have N2 := M2.below h6 M2.lt
    refine store_blk (n := 3) (cs := zT) N2 t_size rfl rfl zT_one rfl rfl (by go_simp) (by go_simp; rfl) ?_
    unfold wpList
    refine hQ _ _ (krow (Keeps.of_below h6) _ _ (fun _ => rfl)) ?_
    clear hQ Q
    go_simp
    (refine Pl.plan_head (i := 3) rfl (fun K hK => ?_); refine Pl.plan_plain (.iface tE (.pointer (some a))) (by first | rfl | simp [Region.wanted, yielded]) (fun w' hw' => by go_simp) ?_; go_simp; (with_reducible apply hK); clear hK K)
    refine Pl.plan_nil (fun wz hz => ?_)
    have NZ := (N2.setRow zT).below hz (N2.setRow zT).lt
    have B6 := below_row (BD.trans ((show Below w5.drew.heap.size w5.drew w6 from h6).mono BD.size)) w.heap.size zT.toArray (Nat.le_refl _)
    have BZ := B6.trans (hz.mono B6.size)
    clear M2 N2 h6 hz B6
    go_simp
    go_wp2_with fail
    exact ret_tm rfl NZ rfl rfl rfl rfl (FIN.out wz BZ a)
  | some tq =>
    obtain ⟨t, q⟩ := tq
    rw [hrd] at T1
    have TX : Hid (txt (cn lt t) = txt (cn lt t)) := rfl
    go_wp2_with fail
    refine T1.mono ?_
    rintro e w2 ⟨v6, l6, rfl, P6, htx, F6, R2, K2⟩
    have hsl6 : ∃ a n c, v6 = .slice a n c := by
      obtain ⟨_, a, c, e, _⟩ := P6.sg
      exact ⟨a, _, c, e⟩
    have ONE6 := sl_one (kd t) (txt (cn lt t)) v6 hsl6
    have B2 := K2.below BW.size (fun k _ e => by omega)
    have BW2 := BW.trans B2
    have O22 := K2.blk O2 (by omega)
    have sz2 : w.heap.size + 1 < w2.heap.size := R2.lt
    have hE2 := hE.below BW2
    have hem := by8_empty q
    have ONEz := zT_one
    by_cases hq : q = []
    · subst hq
      have hem2 : (by8 ([] : S)).toList.isEmpty = true := by decide +kernel
      have FIN : Hid (∀ w', Below w.heap.size w w' → PT w' v6 l6 → PPost s w (.returned (.tuple #[.agg #[.string (by8 (kd t)), .string (by8 (txt (cn lt t))), v6], .nilIface])) w') := Lib.hid fun w' hb hp =>
        ⟨fun t' h => by
          rw [hrd] at h
          simp only [Option.some.injEq, Prod.mk.injEq] at h
          obtain ⟨rfl, _⟩ := h
          exact ⟨v6, l6, rfl, hp, htx⟩, fun h => absurd hrd (h t), hb⟩
      clear hrd TO htx hem TX T1
      generalize kd t = kt at *
      generalize txt (cn lt t) = tt at *
      go_upto_region 5 with (refine store_blk (n := 3) (cs := [.string (by8 kt), .string (by8 tt), v6]) (Blk.new w2 tT zT) t_size rfl rfl ONE6 rfl rfl rfl rfl ?_)
      refine wp_gen (fun wx => Blk wx w.heap.size tT zT ∧ Blk wx w2.heap.size tT [.string (by8 kt), .string (by8 tt), v6] ∧ Blk wx (w.heap.size + 1) tR [.string (by8 [])] ∧ PT wx v6 l6 ∧ Below w.heap.size w wx) ⟨(O22.alloc _).farRow (by omega) _, (Blk.new w2 tT zT).setRow _, (R2.alloc _).farRow (by omega) _, (P6.below (below1 w2 _)).row (fun g hg => by have := P6.sg.lt hg; omega) _, below_row (BW2.alloc BW2.size _) _ _ (by omega)⟩ ?_
      clear O22 R2 P6 BW2 B2 K2 hE2
      rintro w5 ⟨O5, N5, R5, P5, B5⟩
      generalize w2.heap.size = c5 at *
      have cr := R5.cell 0 _ rfl
      have sz1 : w.heap.size < w1.heap.size := O2.lt
      have P9 := P5.row (b := w.heap.size) (fun g hg e => by have := F6 g hg; omega) #[.string (by8 kt), .string (by8 tt), v6]
      have B9 := below_row B5 w.heap.size #[.string (by8 kt), .string (by8 tt), v6] (Nat.le_refl _)
      clear P5
      go_wp2_with (first | refine load_blk' N5 rfl rfl rfl rfl ?_ | refine store_blk (n := 3) (cs := [.string (by8 kt), .string (by8 tt), v6]) O5 t_size rfl rfl ONE6 rfl rfl rfl rfl ?_)
      exact ret_tm rfl (O5.setRow [.string (by8 kt), .string (by8 tt), v6]) rfl rfl rfl rfl (FIN.out _ B9 P9)
    · have hem2 : (by8 q).toList.isEmpty = false := by rw [hem]; exact decide_eq_false (fun h => hq (List.eq_nil_of_length_eq_zero h))
      have FIN : Hid (∀ w', Below w.heap.size w w' → ∀ a, PPost s w (.returned (.tuple #[.agg #[.string ⟨#[]⟩, .string ⟨#[]⟩, .slice none 0 0], .iface tE (.pointer (some a))])) w') := Lib.hid fun w' hb a =>
        ⟨fun t' h => (by
          rw [hrd] at h
          simp only [Option.some.injEq, Prod.mk.injEq] at h
          exact absurd h.2 hq), fun _ => ⟨a, rfl⟩, hb⟩
      clear hrd TO htx hem TX T1 hq
      generalize kd t = kt at *
      generalize txt (cn lt t) = tt at *
      go_upto_region 5 with (refine store_blk (n := 3) (cs := [.string (by8 kt), .string (by8 tt), v6]) (Blk.new w2 tT zT) t_size rfl rfl ONE6 rfl rfl rfl rfl ?_)
      refine wp_gen (fun wx => Blk wx w.heap.size tT zT ∧ Blk wx (w.heap.size + 1) tR [.string (by8 q)] ∧ Below w.heap.size w wx ∧ ErrAt wx) ⟨(O22.alloc _).farRow (by omega) _, (R2.alloc _).farRow (by omega) _, below_row (BW2.alloc BW2.size _) _ _ (by omega), hE2.below (below_row (below1 w2 _) _ _ (Nat.le_refl _))⟩ ?_
      clear O22 R2 P6 BW2 B2 K2 hE2
      rintro w5 ⟨O5, R5, B5, hE5⟩
      have cr := R5.cell 0 _ rfl
      go_upto_region 6 with fail
      obtain ⟨a, hca⟩ := hE5
      have hlt5 := cell_lt2 hca
      have hgne : 1 ≠ w.heap.size := by have := hE0; omega
      have D5 : Below w5.heap.size w5 w5.drew := below_drewN (Below.refl _ _) 1
      have hcd : ∀ w', Keeps (fun k => k = w.heap.size) w5.drew w' → w'.cell? ⟨1, 0, none⟩ = some (.iface tE (.pointer (some a))) := fun w' hk => by
        exact hk.cell (p := ⟨1, 0, none⟩) (by rw [D5.cell hlt5]; exact hca) hgne
      have M2 := O5.below D5 O5.lt
      have BD := B5.trans (D5.mono B5.size)
      (refine Pl.wp_region_plan (fun k => k = w.heap.size) [(true, 0), (true, 1), (false, 2), (true, 3)] (by kernel_rfl) (by kernel_rfl) ?_)
      (refine Pl.plan_head (i := 0) rfl (fun K hK => ?_); refine Pl.plan_plain (.agg #[.string ⟨#[]⟩, .string ⟨#[]⟩, .slice none 0 0]) (by first | rfl | simp [Region.wanted, yielded]) (fun w' hw' => by go_simp) ?_; go_simp; (with_reducible apply hK); clear hK K)
      (refine Pl.plan_head (i := 1) rfl (fun K hK => ?_); refine Pl.plan_plain (.iface tE (.pointer (some a))) (by first | rfl | simp [Region.wanted, yielded]) (fun w' hw' => by have h := hcd w' hw'; go_simp; try simp [h]) ?_; go_simp; (with_reducible apply hK); clear hK K)
      refine Pl.plan_sole (i := 2) rfl (fun w6 h6 Q hQ => ?_)
      have N2 := M2.below h6 M2.lt
      refine store_blk (n := 3) (cs := zT) N2 t_size rfl rfl zT_one rfl rfl (by go_simp) (by go_simp; rfl) ?_
      unfold wpList
      refine hQ _ _ (krow (Keeps.of_below h6) _ _ (fun _ => rfl)) ?_
      clear hQ Q
      go_simp
      (refine Pl.plan_head (i := 3) rfl (fun K hK => ?_); refine Pl.plan_plain (.iface tE (.pointer (some a))) (by first | rfl | simp [Region.wanted, yielded]) (fun w' hw' => by go_simp) ?_; go_simp; (with_reducible apply hK); clear hK K)
      refine Pl.plan_nil (fun wz hz => ?_)
      have NZ := (N2.setRow zT).below hz (N2.setRow zT).lt
      have B6 := below_row (BD.trans ((show Below w5.drew.heap.size w5.drew w6 from h6).mono BD.size)) w.heap.size zT.toArray (Nat.le_refl _)
      have BZ := B6.trans (hz.mono B6.size)
      clear M2 N2 h6 hz B6
      go_simp
      go_wp2_with fail
      exact ret_tm rfl NZ rfl rfl rfl rfl (FIN.out wz BZ a)
end Tv
end Go.Proofs.YtkhdhiddhnmdkaaGreatDoor

namespace Go.Proofs.YtkhdhiddhnmdkaaGreatDoor
open Go.RowKit Tm
set_option maxRecDepth 100000
namespace Tv
theorem ret_tm1 {fn : Func} {R : Ending → World → Prop} {a : Act} {w : World} {p : Tmp} {b : Nat} {t : TypeId} {cs : List Value} (h : fn.results = #[.cell p tT]) (hb : Blk w b t cs) (hl : cs.length = 3)
    (hp : a.tmps.getD p undef = .pointer (some ⟨b, 0, none⟩)) (hd : a.defers = []) (hR : R (.returned (.agg cs.toArray)) w) : bodyPost Tryz.prog fn R .ret a w := by
  refine bodyPost_ret ?_ hd hR
  have hp' : a.tmps[p]?.getD undef = .pointer (some ⟨b, 0, none⟩) := by simpa using hp
  simp [results, h, hp', asAddr, run_loadVar_row (P := Tryz.prog) w b t tT cs.toArray (0, 0) _ hb Tryz.underlying25 rfl (by rw [t_size]; simp [hl])]
set_option maxHeartbeats 2000000 in
theorem of_ok (s : S) (t : T) (w : World) (hs : s.length ≤ 1000) (hE : ErrAt w) (ht : rd (s.length + 1) s = some (t, [])) :
    Calls Tryz.prog 13 #[.string (by8 s)] w fun e w' => ∃ v, e = .returned (tmv (kd t) (txt (cn lt t)) v) ∧ Below w.heap.size w w' := by
  go_enter Tryz.func13, Tryz.ntmps13
  go_upto_region 1 with fail
  refine wp_gen (fun wx => Blk wx w.heap.size tT zT ∧ Below w.heap.size w wx) ⟨Blk.new w tT zT, below1 _ _⟩ ?_
  rintro w1 ⟨O1, BW⟩
  have P1 := Lib.hid (parse_ok s w1 hs (hE.below BW))
  have TT := Lib.hid ht
  clear ht hE
  have P2 : Calls Tryz.prog 5 #[.string (by8 s)] w1 fun e w2 => ∃ v, e = .returned (.tuple #[tmv (kd t) (txt (cn lt t)) v, .nilIface]) ∧ (∃ a n c, v = .slice a n c) ∧ Below w1.heap.size w1 w2 := P1.out.mono fun e w2 hP => by
    obtain ⟨v, l, rfl, PTv, -⟩ := hP.1 t TT.out
    obtain ⟨_, a, c, e, _⟩ := PTv.sg
    exact ⟨v, rfl, ⟨a, _, c, e⟩, hP.2.2⟩
  obtain ⟨kt, hkt⟩ : ∃ k, k = kd t := ⟨_, rfl⟩
  obtain ⟨tt, htt⟩ : ∃ k, k = txt (cn lt t) := ⟨_, rfl⟩
  rw [← hkt, ← htt] at P2
  have HK := Lib.hid (And.intro hkt htt)
  clear hkt htt
  clear P1 TT
  go_wp2_with fail
  refine P2.mono ?_
  rintro e w2 ⟨v, rfl, ONE, hb⟩
  have ONE6 := sl_one kt tt v ONE
  have O2 := O1.below hb O1.lt
  have B2 := BW.trans (hb.mono BW.size)
  clear P2 ONE O1
  go_upto_region 2 with (refine store_blk (n := 3) (cs := [.string (by8 kt), .string (by8 tt), v]) (Blk.new w2 tT zT) t_size rfl rfl ONE6 rfl rfl rfl rfl ?_)
  refine wp_gen (fun wx => Blk wx w.heap.size tT zT ∧ Blk wx w2.heap.size tT [.string (by8 kt), .string (by8 tt), v] ∧ Below w.heap.size w wx) ⟨(O2.alloc _).farRow (by have := O2.lt; omega) _, (Blk.new w2 tT zT).setRow _, below_row (B2.alloc B2.size _) _ _ B2.size⟩ ?_
  clear O2 B2 hb
  rintro w5 ⟨O5, N5, B5⟩
  have B9 := below_row B5 w.heap.size #[.string (by8 kt), .string (by8 tt), v] (Nat.le_refl _)
  generalize w2.heap.size = c5 at *
  go_wp2_with (first | refine load_blk' N5 rfl rfl rfl rfl ?_ | refine store_blk (n := 3) (cs := [.string (by8 kt), .string (by8 tt), v]) O5 t_size rfl rfl ONE6 rfl rfl rfl rfl ?_)
  exact ret_tm1 rfl (O5.setRow [.string (by8 kt), .string (by8 tt), v]) rfl rfl rfl ⟨v, by rw [← HK.out.1, ← HK.out.2]; rfl, B9⟩
end Tv
end Go.Proofs.YtkhdhiddhnmdkaaGreatDoor

namespace Go.Proofs.YtkhdhiddhnmdkaaGreatDoor
open Go.RowKit Sha Cha Tm
set_option maxRecDepth 100000
namespace Tv
/-- a term's parts -/
def subs : T → List T
  | .atom _ => []
  | .one _ a => [a]
  | .two _ a b => [a, b]
theorem kids_subs (t : T) : kids t = (subs t).map txt := by cases t <;> rfl
theorem split_subs {t : T} (h : wf t) : split (txt t) = (kd t, (subs t).map txt) := by
  cases t with
  | atom s => exact split_atom h.1
  | one k a => exact split_one h
  | two k a b => exact split_two h
theorem sub_wf {t a : T} (h : wf t) (ha : a ∈ subs t) : wf a ∧ (txt a).length ≤ (txt t).length := by
  cases t with
  | atom s => cases ha
  | one k b =>
    have e : a = b := by simpa [subs] using ha
    rw [e]
    exact ⟨h.2, by simp [txt]; omega⟩
  | two k b c =>
    rcases (show a = b ∨ a = c by simpa [subs] using ha) with e | e <;> rw [e]
    · exact ⟨h.2.1, by simp [txt]; omega⟩
    · exact ⟨h.2.2, by simp [txt]; omega⟩
section
variable {T_ F Bg : List Int} {Or : List Nat}
theorem built_subs {t : T} (h : wf t) (hk : kd t ≠ kAtom) (hl : (txt t).length ≤ 1000) (wc : World) (v : Value) (w : World) (hG : VG T_ F Bg Or w) (hS : SL wc w v ((subs t).map (vT (bt T_ F Bg Or)))) :
    Calls Tryz.prog 12 #[.string (by8 (kd t)), v] w fun e w' => e = .returned (.string (by8 (vT (bt T_ F Bg Or) t))) ∧ Below w.heap.size w w' := by
  have L : ∀ a ∈ subs t, (vT (bt T_ F Bg Or) a).length ≤ 90000 := fun a ha => by
    have h1 := sub_wf h ha
    have h2 := vlen (T_ := T_) (Bg := Bg) (Or := Or) hG.e.t.f a h1.1
    omega
  cases t with
  | atom s => exact absurd rfl hk
  | one k a => exact built_one h.1 wc v _ w hG hS (L a (by simp [subs]))
  | two k a b => exact built_two h.1 wc v _ _ w hG hS (L a (by simp [subs])) (L b (by simp [subs]))
theorem val_err {a : Addr} : (Value.iface tE (.pointer (some a))) ≠ .nilIface := by intro h; cases h
set_option maxHeartbeats 8000000 in
theorem values_none (s : S) (s0 : ByteArray) (w : World) (hs : s.length ≤ 120) (hc : s0.extract 0 120 = by8 s) (hE : ErrAt w) (hr : ∀ t, rd (s.length + 1) s ≠ some (t, [])) :
    Calls Tryz.prog 3 #[.string s0] w fun e w' => e = .returned (.bool true) ∧ Below w.heap.size w w' := by
  have CU : Hid (∀ w', Calls Tryz.prog 4 #[.string s0, .int .i64 120] w' fun e w'' => e = .returned (.string (by8 s)) ∧ w' = w'') := Lib.hid (by rw [← hc]; exact cut_ok s0 120)
  have CN : Hid (∀ w', Calls Tryz.prog 6 #[.string (by8 s)] w' fun e w'' => (∃ x, e = .returned (.tuple #[.string x, .bool false])) ∧ Below w'.heap.size w' w'') := Lib.hid fun w' => by
    have h := canon_all (s.length + 1) s w' (Nat.lt_succ_self _) (by omega)
    cases hcn : cN lt (s.length + 1) s with
    | none => rw [hcn] at h; exact h
    | some u =>
      obtain ⟨t, ht, hts, _⟩ := c_sound lt _ _ _ hcn
      have := rd_complete t (s.length + 1) [] ht stop_nil (by rw [hts]; omega)
      rw [List.append_nil, hts] at this
      exact absurd this (hr t)
  have PA := Lib.hid (parse_ok s w (by omega) hE)
  have HR := Lib.hid hr
  clear hc hr hE
  go_enter Tryz.func3, Tryz.ntmps3
  go_upto_region 2 with (go_at_call 4; refine (CU.out _).mono ?_; rintro e w2 ⟨rfl, rfl⟩)
  go_wp2_with fail
  refine PA.out.mono ?_
  intro e w2 hP
  obtain ⟨a, rfl⟩ := hP.2.1 HR.out
  have hb := hP.2.2
  have ONE6 := sl_one [] [] (.slice none 0 0) ⟨_, _, _, rfl⟩
  clear hP PA HR
  unfold tmv
  go_upto_region 3 with (refine store_blk (n := 3) (cs := zT) (Blk.new w2 tT zT) t_size rfl rfl ONE6 rfl rfl rfl rfl ?_)
  refine wp_gen (fun wx => Below w.heap.size w wx) (below_row (hb.alloc hb.size _) _ _ hb.size) ?_
  intro w3 B3
  go_wp2_with (go_at_call 6; refine (CN.out _).mono ?_; rintro e w4 ⟨⟨x, rfl⟩, hb4⟩)
  go_ret
  exact ⟨rfl, B3.trans (hb4.mono B3.size)⟩
theorem eq_self (x : S) : ((by8 x).toList == (by8 x).toList) = true := by rw [str_eq]; exact decide_eq_true rfl
set_option maxHeartbeats 16000000 in
theorem values_walk (s want K V : S) (ts : List T) (vf : T → S) (s0 : ByteArray) (w : World)
    (CU : ∀ w', Calls Tryz.prog 4 #[.string s0, .int .i64 120] w' fun e w'' => e = .returned (.string (by8 s)) ∧ w' = w'')
    (CN : ∀ w', Calls Tryz.prog 6 #[.string (by8 s)] w' fun e w'' => e = .returned (.tuple #[.string (by8 want), .bool true]) ∧ Below w'.heap.size w' w'')
    (PA : Calls Tryz.prog 5 #[.string (by8 s)] w fun e w' => ∃ v l, e = .returned (.tuple #[tmv K want v, .nilIface]) ∧ PT w' v l ∧ txs l = ts.map txt ∧ Below w.heap.size w w')
    (VS : ∀ w', Below w.heap.size w w' → Calls Tryz.prog 8 #[.string (by8 s)] w' fun e w'' => e = .returned (.string (by8 V)) ∧ Below w'.heap.size w' w'')
    (VU : ∀ w', Below w.heap.size w w' → Calls Tryz.prog 8 #[.string (by8 want)] w' fun e w'' => e = .returned (.string (by8 V)) ∧ Below w'.heap.size w' w'')
    (SP : ∀ w', Calls Tryz.prog 10 #[.string (by8 want)] w' fun e w'' => ∃ v, e = .returned (.tuple #[.string (by8 K), v]) ∧ SL w' w'' v (ts.map txt))
    (OF : ∀ w', Below w.heap.size w w' → Calls Tryz.prog 13 #[.string (by8 s)] w' fun e w'' => ∃ v, e = .returned (tmv K want v) ∧ Below w'.heap.size w' w'')
    (BU : K ≠ kAtom → ∀ wc v w', Below w.heap.size w w' → SL wc w' v (ts.map vf) → Calls Tryz.prog 12 #[.string (by8 K), v] w' fun e w'' => e = .returned (.string (by8 V)) ∧ Below w'.heap.size w' w'')
    (VP : ∀ a ∈ ts, ∀ w', Below w.heap.size w w' → Calls Tryz.prog 8 #[.string (by8 (txt a))] w' fun e w'' => e = .returned (.string (by8 (vf a))) ∧ Below w'.heap.size w' w'')
    (hat : K = kAtom → V = want) (hn : K ≠ kAtom → 0 < ts.length ∧ ts.length ≤ 2) :
    Calls Tryz.prog 3 #[.string s0] w fun e w' => e = .returned (.bool true) ∧ Below w.heap.size w w' := by
  have HX := Lib.hid (And.intro SP (And.intro OF (And.intro BU VP)))
  have HA := Lib.hid (And.intro hat hn)
  clear SP OF BU VP hat hn
  have EQW := eq_self want
  have EQV := eq_self V
  have EQK := eq_self K
  go_enter Tryz.func3, Tryz.ntmps3
  go_upto_region 2 with (go_at_call 4; refine (CU _).mono ?_; rintro e w2 ⟨rfl, rfl⟩)
  go_wp2_with fail
  refine PA.mono ?_
  rintro e w2 ⟨v, l, rfl, P2, htx, hb⟩
  have ONE : ∃ a n c, v = .slice a n c := by
    obtain ⟨_, a, c, e, _⟩ := P2.sg
    exact ⟨a, _, c, e⟩
  have ONE6 := sl_one K want v ONE
  have PSL := Lib.hid P2.sl
  go_upto_region 3 with (refine store_blk (n := 3) (cs := [.string (by8 K), .string (by8 want), v]) (Blk.new w2 tT zT) t_size rfl rfl ONE6 rfl rfl rfl rfl ?_)
  refine wp_gen (fun wx => Blk wx w2.heap.size tT [.string (by8 K), .string (by8 want), v] ∧ PT wx v l ∧ Below w.heap.size w wx) ⟨(Blk.new w2 tT zT).setRow _, (P2.below (below1 w2 _)).row (fun g hg => by have := P2.sg.lt hg; omega) _, below_row (hb.alloc hb.size _) _ _ hb.size⟩ ?_
  have hc2 : w.heap.size ≤ w2.heap.size := hb.size
  clear P2 hb PA
  generalize w2.heap.size = c3 at *
  rintro w3 ⟨N3, P3, B3⟩
  go_wp2_with fail
  refine (CN _).mono ?_
  rintro e w4 ⟨rfl, hb4⟩
  have N4 := N3.below hb4 N3.lt
  have H4 := Lib.hid (And.intro (P3.below hb4) (B3.trans (hb4.mono B3.size)))
  clear N3 P3 B3 hb4
  go_upto_region 8 with (first | refine load_blk' N4 rfl rfl rfl rfl ?_ | (go_at_call 7; refine (text_ok K want v _).mono ?_; rintro e w5 ⟨rfl, hb5⟩; have B5 := Lib.hid (H4.out.2.trans (hb5.mono H4.out.2.size))) | (go_at_call 8; with_reducible refine (VS _ B5.out).mono ?_; rintro e w6 ⟨rfl, hb6⟩; have B6 := Lib.hid (B5.out.trans (hb6.mono B5.out.size))) | (go_at_call 8; with_reducible refine (VU _ B6.out).mono ?_; rintro e w7 ⟨rfl, hb7⟩))
  have R7 : Below w4.heap.size w4 w7 := Rw.trans (Rw.trans hb5 hb6) hb7
  have N7 := N4.below R7 N4.lt
  have H7 := Lib.hid (And.intro (H4.out.1.below R7) (H4.out.2.trans (R7.mono H4.out.2.size)))
  clear N4 H4 R7 hb5 hb6 hb7 B5 B6
  by_cases hK : K = kAtom
  · have hV := HA.out.1 hK
    subst hK
    subst hV
    have EQA : ((by8 kAtom).toList == [97, 116, 111, 109]) = true := by decide +kernel
    go_wp2_with (first | refine load_blk' N7 rfl rfl rfl rfl ?_ | (go_at_call 9; refine (kind_ok kAtom V v _).mono ?_; rintro e w8 ⟨rfl, hb8⟩; have B8 := Lib.hid (H7.out.2.trans (hb8.mono H7.out.2.size))) | (go_at_call 8; with_reducible refine (VU _ B8.out).mono ?_; rintro e w9 ⟨rfl, hb9⟩))
    go_ret
    exact ⟨rfl, B8.out.trans (hb9.mono B8.out.size)⟩
  · have EQA : ((by8 K).toList == [97, 116, 111, 109]) = false := by
      have h := str_eq K kAtom
      rw [decide_eq_false hK, ByteArray.toList_eq (by8 kAtom)] at h
      exact h
    have hts := HA.out.2 hK
    have BU := Lib.hid (HX.out.2.2.1 hK)
    clear hK HA
    have ll : l.length = ts.length := by
      have := congrArg List.length htx
      unfold txs at this
      rw [List.length_map, List.length_map] at this
      exact this
    have LL := Lib.hid ll
    obtain ⟨n, hn⟩ : ∃ n, n = ts.length := ⟨_, rfl⟩
    have HN := Lib.hid hn
    rw [← hn] at hts ll
    clear hn
    obtain ⟨hn0, hn2⟩ := hts
    go_upto_region 10 with (first | refine load_blk' N7 rfl rfl rfl rfl ?_ | (go_at_call 9; refine (kind_ok K want v _).mono ?_; rintro e w8 ⟨rfl, hb8⟩))
    have N8 := N7.below hb8 N7.lt
    have H8 := Lib.hid (And.intro (H7.out.1.below hb8) (H7.out.2.trans (hb8.mono H7.out.2.size)))
    clear N7 H7 hb8
    go_wp2_with fail
    refine (HX.out.1 w8).mono ?_
    rintro e w9 ⟨v9, rfl, hS9⟩
    have hSL9 := Lib.hid hS9
    obtain ⟨g9, off9, cap9, rfl, -, -, -, -⟩ := hS9.cell (by rw [List.length_map, ← HN.out]; exact hn0)
    have hl9 : (ts.map txt).length = n := by rw [List.length_map, ← HN.out]
    rw [hl9]
    have N9 := N8.below hS9.be N8.lt
    have H9 := Lib.hid (And.intro (H8.out.1.below hS9.be) (H8.out.2.trans (hS9.be.mono H8.out.2.size)))
    clear N8 H8 hS9
    have hl0 : 0 < l.length := by omega
    have hl1 : l.length ≤ 100 := by omega
    have PC := Lib.hid (fun (w' : World) (hb : Below w9.heap.size w9 w') => parts_ok K want v l w' (H9.out.1.below hb) hl0 hl1)
    have HLL := Lib.hid ll
    clear hl0 hl1 ll
    go_upto_region 13 with (first | refine load_blk' N9 rfl rfl rfl rfl ?_ | (go_at_call 9; refine (kind_ok K want v _).mono ?_; rintro e w10 ⟨rfl, hb10⟩; have N10 := Lib.hid (N9.below hb10 N9.lt)) | refine load_blk' N10.out rfl rfl rfl rfl ?_ | (go_at_call 11; refine (PC.out _ hb10).mono ?_; rintro e w11 ⟨v11, rfl, P11, -, hb11⟩; obtain ⟨ga, oa, ca, rfl, -⟩ := P11.sg.open (by rw [HLL.out]; exact hn0); rw [HLL.out]))
    have R11 : Below w9.heap.size w9 w11 := Rw.trans hb10 hb11
    have N11 := N9.below R11 N9.lt
    have H11 := Lib.hid (H9.out.2.trans (R11.mono H9.out.2.size))
    have PD := Lib.hid (fun (w' : World) (hb : Below w11.heap.size w11 w') => PC.out w' (Rw.trans R11 hb))
    clear N9 N10 H9 R11 hb10 hb11 P11 PC
    go_upto_region 15 with (first | refine load_blk' N11 rfl rfl rfl rfl ?_ | (go_at_call 11; refine (PD.out _ (Below.refl _ _)).mono ?_; rintro e w12 ⟨v12, rfl, P12, -, hb12⟩; have HP12 := Lib.hid P12; obtain ⟨gb, ob, cb, rfl, -⟩ := P12.sg.open (by rw [HLL.out]; exact hn0); clear P12; rw [HLL.out]))
    have N12 := N11.below hb12 N11.lt
    have H12 := Lib.hid (H11.out.trans (hb12.mono H11.out.size))
    have HE1 := Lib.hid (SL.nil w12)
    have HCELL := Lib.hid (fun (w' : World) (hb : Below w12.heap.size w12 w') (i : Nat) (x : Row) (hx : l[i]? = some x) => ((HP12.out.below hb).cells (by rw [HLL.out]; exact hn0) i x hx).1)
    have HTX := Lib.hid htx
    obtain ⟨j0, hj, hj0, hj1, hj2⟩ := info_parts strInfo
    have I := Lib.hid hj
    have I0 := Lib.hid hj0
    have I1 := Lib.hid hj1
    have I2 := Lib.hid hj2
    clear hj hj0 hj1 hj2 htx N11 H11 hb12 PD HP12
    go_loopw [9, 70] (fun v9 v70 wr => ∃ (i : Nat) (us : List S), v70 = .int .i64 i ∧ i ≤ n ∧ SL w12 wr v9 us ∧ Hid ((ts.take i).map vf = us) ∧ us.length = i) (fun _ v70 _ => 5 - (intOf v70).toNat)
    case atStart => exact ⟨0, [], rfl, by omega, HE1.out, Lib.hid rfl, rfl⟩
    case round =>
      obtain ⟨i, us, rfl, hi, hUS, hmm, hul⟩ := hrel
      by_cases hgo : i < n
      · have hgt : i < ts.length := by rw [← HN.out]; exact hgo
        have hgl : i < l.length := by rw [HLL.out]; exact hgo
        obtain ⟨t, hxi⟩ : ∃ t, ts[i]? = some t := ⟨_, List.getElem?_eq_getElem hgt⟩
        obtain ⟨x, hxl⟩ : ∃ x, l[i]? = some x := ⟨_, List.getElem?_eq_getElem hgl⟩
        have hmem := List.mem_of_getElem? hxi
        have hxt : x.2.1 = txt t := by
          have h1 : (txs l)[i]? = some x.2.1 := by unfold txs; rw [List.getElem?_map, hxl]; rfl
          rw [HTX.out, List.getElem?_map, hxi] at h1
          exact (Option.some.inj h1).symm
        have hc := HCELL.out _ hUS.be i x hxl
        obtain ⟨xk, xt, xv⟩ := x
        have hxt : xt = txt t := hxt
        subst hxt
        have hc : wr.rangeAt gb (ob + i * 3) [.string (by8 xk), .string (by8 (txt t)), xv] := hc
        have hxs : ∃ a n c, xv = .slice a n c := PSL.out _ (List.mem_of_getElem? hxl)
        have ONEX := sl_one xk (txt t) xv hxs
        have HTK : Hid ((ts.take (i + 1)).map vf = us ++ [vf t]) := by show _ = _; rw [List.take_add_one, hxi, ← hmm.out, List.map_append]; rfl
        have BBw : Below w.heap.size w wr := H12.out.trans (hUS.be.mono H12.out.size)
        have IHx := Lib.hid (HX.out.2.2.2 _ hmem)
        have HXS := Lib.hid hxs
        have RH := Lib.hid hc
        clear hxi hxl hmem hgt hgl hxs hc
        have HUS := Lib.hid hUS
        have HUL := Lib.hid hul
        have hu2 : us.length ≤ 2 := by omega
        have hi5 : i < 5 := by omega
        clear hul
        have m1 : us.length + 1 ≤ maxLen := by unfold maxLen; omega
        have m2 : (us.length + 1) * 16 ≤ 140737488355328 := by omega
        have BB := Lib.hid BBw
        obtain ⟨u, hu0⟩ : ∃ u, u = vf t := ⟨_, rfl⟩
        rw [← hu0] at IHx HTK
        clear hu0 BBw
        generalize txt t = tt at *
        have OSV := sv_one [u]
        clear hUS
        go_upto_region 17 with (first | refine wpList_load_mid rfl tT _ rfl gb (ob + i * 3) rfl [.string (by8 xk), .string (by8 tt), xv] _ RH.out Tryz.underlying25 rfl (by rw [t_size]; rfl) ?_ | refine store_blk (n := 3) (cs := [.string (by8 xk), .string (by8 tt), xv]) (Blk.new wr tT zT) t_size rfl rfl ONEX rfl rfl rfl rfl ?_)
        refine wp_gen (fun wx => Blk wx wr.heap.size tT [.string (by8 xk), .string (by8 tt), xv] ∧ Below wr.heap.size wr wx) ⟨(Blk.new wr tT zT).setRow _, below_row (below1 wr _) _ _ (Nat.le_refl _)⟩ ?_
        rintro w5 ⟨N5, hb5⟩
        have HU5 := Lib.hid (HUS.out.below hb5)
        have BB5 := Lib.hid (BB.out.trans (hb5.mono BB.out.size))
        clear hb5 RH
        go_wp2_with (first | refine load_blk' N5 rfl rfl rfl rfl ?_ | (go_at_call 7; refine (text_ok xk tt xv _).mono ?_; rintro e w6 ⟨rfl, hb6⟩; have BB6 := Lib.hid (BB5.out.trans (hb6.mono BB5.out.size)); have HU6 := Lib.hid (HU5.out.below hb6)) | (go_at_call 8; refine (IHx.out _ BB6.out).mono ?_; rintro e w7 ⟨rfl, hb7⟩; have HU7 := Lib.hid (HU6.out.below hb7); have hu := lit_str w7 u; have hsv := (HU7.out.below (below1 w7 (.cells #[.string (by8 u)] 9))).sg; clear hb7) | (at_builtin; refine wpList_append_any _ rfl (.tmp 74) (.tmp 78) 34 rfl 9 j0 (.string ⟨#[]⟩) 1 16 Tryz.underlying34 I.out I0.out I1.out I2.out rfl (by decide) _ us.length _ rfl hsv _ 1 (sv [u]) rfl hu OSV m1 m2 ?grow))
        case grow =>
          intro v' w8 hs8 hv8 hk8
          have R8 := Lib.hid (HU7.out.app (x := u) hs8 hv8 hk8)
          clear hs8 hv8 hk8 hu hsv
          go_wp2_with fail
          go_roundw
          case rel => exact ⟨i + 1, us ++ [u], by go_num, by omega, R8.out, HTK, by rw [List.length_append, HUL.out]; rfl⟩
          case measure => exact meas5 hi5
      · obtain rfl : i = n := by omega
        have hm := hmm.out
        rw [HN.out, List.take_length] at hm
        rw [← hm] at hUS
        have BBw : Below w.heap.size w wr := H12.out.trans (hUS.be.mono H12.out.size)
        have CB := Lib.hid (BU.out _ _ wr BBw hUS)
        have BB := Lib.hid BBw
        clear hm hmm hUS hul BBw
        go_wp2_with (first | (go_at_call 12; refine CB.out.mono ?_; rintro e w5 ⟨rfl, hb5⟩; have BB5 := Lib.hid (BB.out.trans (hb5.mono BB.out.size))) | (go_at_call 8; refine (VU _ BB5.out).mono ?_; rintro e w6 ⟨rfl, hb6⟩; have BB6 := Lib.hid (BB5.out.trans (hb6.mono BB5.out.size))) | (go_at_call 13; refine (HX.out.2.1 _ BB6.out).mono ?_; rintro e w7 ⟨v7, rfl, hb7⟩; have BB7 := Lib.hid (BB6.out.trans (hb7.mono BB6.out.size))) | (go_at_call 7; refine (text_ok K want v7 _).mono ?_; rintro e w8 ⟨rfl, hb8⟩))
        go_ret
        exact ⟨rfl, BB7.out.trans (hb8.mono BB7.out.size)⟩
set_option maxHeartbeats 16000000 in
theorem values_some (s : S) (t : T) (s0 : ByteArray) (w : World) (hs : s.length ≤ 120) (hc : s0.extract 0 120 = by8 s) (hG : VG T_ F Bg Or w) (hE : ErrAt w) (ht : wf t) (hts : txt t = s) :
    Calls Tryz.prog 3 #[.string s0] w fun e w' => e = .returned (.bool true) ∧ Below w.heap.size w w' := by
  have hr : rd (s.length + 1) s = some (t, []) := by
    have := rd_complete t (s.length + 1) [] ht stop_nil (by rw [hts]; omega)
    rwa [List.append_nil, hts] at this
  obtain ⟨u, hu⟩ : ∃ u, u = cn lt t := ⟨_, rfl⟩
  have hwu : wf u := by rw [hu]; exact cn_wf lt t ht
  have hlu : (txt u).length ≤ 120 := by rw [hu, cn_len, hts]; exact hs
  have hku : kd u = kd t := by rw [hu]; exact kd_cn t
  have hvu : vT (bt T_ F Bg Or) u = vT (bt T_ F Bg Or) t := by rw [hu]; exact v_cn lt _ (bt_share_eq hG.e.t) t
  have CU : Hid (∀ w', Calls Tryz.prog 4 #[.string s0, .int .i64 120] w' fun e w'' => e = .returned (.string (by8 s)) ∧ w' = w'') := Lib.hid (by rw [← hc]; exact cut_ok s0 120)
  have CN : Hid (∀ w', Calls Tryz.prog 6 #[.string (by8 s)] w' fun e w'' => e = .returned (.tuple #[.string (by8 (txt u)), .bool true]) ∧ Below w'.heap.size w' w'') := Lib.hid fun w' => by
    have h := canon_all (s.length + 1) s w' (Nat.lt_succ_self _) (by omega)
    have h2 := c_complete lt t (s.length + 1) ht (by rw [hts]; omega)
    rw [hts, ← hu] at h2
    rw [h2] at h
    exact h
  have PA : Hid (Calls Tryz.prog 5 #[.string (by8 s)] w fun e w' => ∃ v l, e = .returned (.tuple #[tmv (kd u) (txt u) v, .nilIface]) ∧ PT w' v l ∧ txs l = kids u ∧ Below w.heap.size w w') := Lib.hid ((parse_ok s w (by omega) hE).mono fun e w' hP => by
    obtain ⟨v, l, he, hp, hx⟩ := hP.1 t hr
    rw [← hku, ← hu] at *
    exact ⟨v, l, by rw [he, hku], hp, hx, hP.2.2⟩)
  have hl1 : (txt t).length ≤ 1000 := by rw [hts]; omega
  refine values_walk s (txt u) (kd u) (vT (bt T_ F Bg Or) t) (subs u) (vT (bt T_ F Bg Or)) s0 w CU.out CN.out (by rw [← kids_subs]; exact PA.out) (fun w' hb => ?_) (fun w' hb => ?_) (fun w' => ?_) (fun w' hb => ?_) (fun hk wc v w' hb hS => ?_) (fun a ha w' hb => ?_) (fun hk => ?_) (fun hk => ?_)
  · have h := value_ok t ht hl1 w' (hG.below hb)
    rwa [hts] at h
  · have h := value_ok u hwu (by omega) w' (hG.below hb)
    rwa [hvu] at h
  · have h := split_ok (txt u) (by omega) w'
    rwa [split_subs hwu] at h
  · have h := of_ok s t w' (by omega) (hE.below hb) hr
    rwa [← hu, ← hku] at h
  · have h := built_subs hwu hk (by omega) wc v w' (hG.below hb) hS
    rwa [hvu] at h
  · have h1 := sub_wf hwu ha
    exact value_ok a h1.1 (by omega) w' (hG.below hb)
  · rw [← hvu]
    cases u with
    | atom x => rfl
    | one k a => exact absurd hk (wf_kw (.inl hwu.1))
    | two k a b => exact absurd hk (wf_kw (.inr hwu.1))
  · cases u with
    | atom x => exact absurd rfl hk
    | one k a => exact ⟨Nat.le_refl 1, Nat.le_of_ble_eq_true rfl⟩
    | two k a b => exact ⟨Nat.le_of_ble_eq_true rfl, Nat.le_refl 2⟩
theorem values_ok (s0 : ByteArray) (w : World) (hG : VG T_ F Bg Or w) (hE : ErrAt w) : Calls Tryz.prog 3 #[.string s0] w fun e w' => e = .returned (.bool true) ∧ Below w.heap.size w w' := by
  obtain ⟨s, es, ls⟩ : ∃ l, s0.extract 0 120 = by8 l ∧ l.length ≤ 120 := ⟨(s0.extract 0 120).data.toList, (by8_of _).symm, by
    simp [ByteArray.data_extract]
    omega⟩
  by_cases h : ∃ t, rd (s.length + 1) s = some (t, [])
  · obtain ⟨t, hr⟩ := h
    obtain ⟨h1, h2⟩ := rd_sound _ _ _ _ hr
    rw [List.append_nil] at h1
    exact values_some s t s0 w ls es hG hE h2 h1.symm
  · exact values_none s s0 w ls es hE (fun t ht => h ⟨t, ht⟩)
end
end Tv
end Go.Proofs.YtkhdhiddhnmdkaaGreatDoor
