/-
The document's Told, walked: an answer; Told in one.
-/
import Derived.Test.YtaenfkekdhnakaaKRef6
namespace Go.Proofs.Ytaenfkekdhnakaa
open Go.RowKit

theorem kc_any (s : KS) (vn vi va : Value) (h1 : vn.oneCell' = true) (h2 : vi.oneCell' = true) (h3 : va.oneCell' = true) : ∀ v ∈ kcells s vn vi va, v.oneCell' = true := by
  intro v hv
  simp only [kcells, List.mem_cons, List.not_mem_nil, or_false] at hv
  rcases hv with rfl | rfl | rfl | rfl | rfl | rfl | rfl | rfl | rfl | rfl | rfl <;> first | rfl | assumption
set_option maxHeartbeats 4000000 in
set_option maxRecDepth 100000 in
theorem rtold_answer (s : KS) (vn vi va : Value) (w : World) (H : RX w s vn vi va) (ho : s.Ok) (what : Int) (h1 : what = 3 ∨ what = 4) (q1 : s.state = 2) (h3 : s.asked ≠ []) :
    Calls Try.prog 14 #[rv s vn vi va, .int .i64 what] w fun e w' => ∃ vi' va' vo, e = .returned (.tuple #[rv (s.answered (what - 2).toNat) vn vi' va', vo]) ∧ RDid w w' (s.answered (what - 2).toNat) vn vi va vi' va' vo [] := by
  obtain ⟨i0, hi, hz0, hz1, hz2⟩ := info_parts intInfo
  have I := Lib.hid hi
  have I0 := Lib.hid hz0
  have I1 := Lib.hid hz1
  have I2 := Lib.hid hz2
  clear hi hz0 hz1 hz2
  obtain ⟨x, l, hxl⟩ := List.exists_cons_of_ne_nil h3
  have hka := H.asked
  rw [hxl] at hka
  obtain ⟨g, off, cap, hva, hnc, hcm, hvb, hglt, hcell, htail⟩ := hka.open (by simp)
  have hx0 : w.cell? ⟨g, off, none⟩ = some (.int .i64 x) := by have := (hcell 0 (by simp)).1; simpa [zvals] using this
  have hpl := ho.places x (by rw [hxl]; simp)
  have hon := ho.names
  have hfew := ho.few
  simp only [List.length_cons, Nat.add_sub_cancel] at hva hnc htail
  have ht : Sg w 1 (if cap = 1 then .slice (some ⟨g, off, none⟩) l.length (cap - 1) else .slice (some ⟨g, off + 1, none⟩) l.length (cap - 1)) l.length (zvals l) := htail
  subst hva
  obtain ⟨an, cn, rfl⟩ := H.names.shape
  obtain ⟨ai, ci, rfl⟩ := H.wants.shape
  have hans : ∀ d, s.answered d = { s with wants := if x = -1 then s.wants else s.wants.set x.toNat d, asked := l } := fun d => by unfold KS.answered; rw [hxl]; rfl
  have HANS := Lib.hid hans
  unfold maxLen at hcm
  have hpos : (0 : Int) < (l.length : Int) + 1 := by omega
  obtain ⟨va2, hsg2, hvb2, hif, hsh⟩ : ∃ va2, Sg w 1 va2 l.length (zvals l) ∧ (∀ g', vblk va2 = some g' → vblk (.slice (some ⟨g, off, none⟩) (l.length + 1) cap) = some g') ∧
      ((cap = 1 ∧ va2 = .slice (some ⟨g, off, none⟩) l.length 0) ∨ (cap ≠ 1 ∧ va2 = .slice (some ⟨g, off + 1, none⟩) l.length (cap - 1))) ∧ va2.oneCell' = true := by
    refine ⟨_, ht, fun g' hg => ?_, ?_, ?_⟩
    · rw [hvb]
      by_cases hc1 : cap = 1
      · simp [hc1, vblk] at hg
      · simp only [if_neg hc1, vblk] at hg
        split at hg
        · cases hg
        · exact hg
    · by_cases hc1 : cap = 1
      · exact .inl ⟨hc1, by simp [hc1]⟩
      · exact .inr ⟨hc1, by simp [hc1]⟩
    · by_cases hc1 : cap = 1 <;> simp [hc1] <;> rfl
  have hsl : ∀ W, (Instr.sliceAt 25 (.slice (some ⟨g, off, none⟩) (l.length + 1) cap) (some (.int .i64 1)) none none).run Try.prog W = .ok va2 W := fun W => by
    rcases hif with ⟨rfl, rfl⟩ | ⟨hc1, rfl⟩
    · obtain rfl : l = [] := List.eq_nil_of_length_eq_zero (by omega)
      go_simp
    · go_simp
      intro h; omega
  obtain ⟨a2, c2, rfl⟩ := hsg2.shape
  have HSL := Lib.hid hsl
  clear hsl hif
  have SG2 := Lib.hid hsg2
  have VB2 := Lib.hid hvb2
  have VS := Lib.hid hsh
  have HX := Lib.hid H
  have K0 := K2.new w s (.slice an s.names.length cn) (.slice ai s.wants.length ci) (.slice (some ⟨g, off, none⟩) (l.length + 1) cap)
  obtain ⟨d, hd⟩ : ∃ d, d = (what - 2).toNat := ⟨_, rfl⟩
  have hdw : what - 2 = (d : Int) := by omega
  have HLN : Hid (s.names.length = s.wants.length) := hon
  have HLE : (s.names.length : Nat) = s.wants.length := hon
  rw [← hd]
  unfold rv
  have HGL := Lib.hid hglt
  have HXM := Lib.hid hpl
  have HL16 : Hid (s.wants.length ≤ 16) := Lib.hid (by omega)
  clear H ho h3 hka hcell htail ht hxl hvb hans hsg2 hvb2 hsh hfew HLE hon hd hglt
  have fin : ∀ (vi : Value) (wx : World), Below w.heap.size w wx → Sg wx 1 vi (s.answered d).wants.length (nvals (s.answered d).wants) → (∀ g, vblk vi = some g → vblk (.slice ai s.wants.length ci) = some g ∨ w.heap.size ≤ g) → 
      ∃ vi' va' vo, Ending.returned (.tuple #[rv (s.answered d) (.slice an s.names.length cn) vi (.slice a2 l.length c2), .slice none 0 0]) = .returned (.tuple #[rv (s.answered d) (.slice an s.names.length cn) vi' va', vo]) ∧
        RDid w wx (s.answered d) (.slice an s.names.length cn) (.slice ai s.wants.length ci) (.slice (some ⟨g, off, none⟩) (l.length + 1) cap) vi' va' vo [] := fun vi wx hb hs hn =>
    ⟨_, _, _, rfl, ⟨⟨HX.out.names.below hb, hs, by have e : (s.answered d).asked = l := by rw [HANS.out]
                                                   rw [e]; exact SG2.out.below hb⟩, Sg.nil _ _, hn, fun g h => .inl (VB2.out g h), fun g h => by simp [vblk] at h, hb⟩⟩
  have FIN := Lib.hid fin
  clear fin hpl
  by_cases hxm : x = -1
  · subst hxm
    have X0 := Lib.hid hx0
    have NU : Hid (Sg w 1 (.slice ai s.wants.length ci) (s.answered d).wants.length (nvals (s.answered d).wants)) := Lib.hid (by rw [HANS.out]; exact HX.out.wants)
    have e10 : (kcells s (.slice an s.names.length cn) (.slice ai s.wants.length ci) (.slice (some ⟨g, off, none⟩) (l.length + 1) cap)).set 10 (.slice a2 l.length c2) = kcells (s.answered d) (.slice an s.names.length cn) (.slice ai s.wants.length ci) (.slice a2 l.length c2) := by rw [HANS.out]; rfl
    have E10 := Lib.hid e10
    clear hx0 e10
    rcases h1 with rfl | rfl
    all_goals
      have hsl := HSL.out
      go_enter Try.func14, Try.ntmps14
      go_upto_region 1 with fail
      refine wp_gen (fun wx => K2 w wx w.heap.size s (.slice an s.names.length cn) (.slice ai s.wants.length ci) (.slice (some ⟨g, off, none⟩) (l.length + 1) cap)) K0 ?_
      clear K0
      rintro w2 K2'
      have K := Lib.hid K2'
      have c4 : w2.cell? ⟨w.heap.size, 4, none⟩ = some (.int .i64 s.state) := K2'.own.cell 4 _ rfl
      rw [q1] at c4
      have c10 := K2'.own.cell 10 _ rfl
      have f10 := K2'.own.free 10
      have cx := (K2'.bel.cell (p := ⟨g, off, none⟩) HGL.out).trans X0.out
      have K3 := Lib.hid (K2'.num 10 (.slice a2 l.length c2) (s.answered d) _ _ (.slice a2 l.length c2) E10.out)
      clear K2' K
      go_upto_region 14 with fail
      refine wp_gen (fun wx => K2 w wx w.heap.size (s.answered d) (.slice an s.names.length cn) (.slice ai s.wants.length ci) (.slice a2 l.length c2)) K3.out ?_
      clear K3 c4 c10 f10 cx
      rintro w8 k8
      have K := Lib.hid k8
      obtain ⟨xs, hcl, hcs⟩ := k8.res
      have HCS := Lib.hid hcs
      have HCL := Lib.hid hcl
      have hone := kc_any (s.answered d) (.slice an s.names.length cn) (.slice ai s.wants.length ci) (.slice a2 l.length c2) rfl rfl VS.out
      have KR := Lib.hid (k8.row (cs := kcells (s.answered d) (.slice an s.names.length cn) (.slice ai s.wants.length ci) (.slice a2 l.length c2)) rfl)
      have K9 := Lib.hid (hcs.setRow (kcells (s.answered d) (.slice an s.names.length cn) (.slice ai s.wants.length ci) (.slice a2 l.length c2)))
      have KW := Lib.hid (Keeps.row w8 (w.heap.size + 1) (kcells (s.answered d) (.slice an s.names.length cn) (.slice ai s.wants.length ci) (.slice a2 l.length c2)).toArray)
      clear k8 hcs hcl

      go_wp2_with (first | refine load_blk K.out.own Try.underlying31 rfl keeper_size' rfl rfl rfl rfl ?_ | refine store_blk HCS.out keeper_size' rfl HCL.out hone rfl rfl rfl rfl ?_)
      refine K2.ret K9.out rfl rfl rfl rfl ?_
      exact FIN.out _ _ KR.out.bel (NU.out.below KR.out.bel) (fun g h => .inl h)
  · obtain ⟨xn, rfl⟩ := Int.eq_ofNat_of_zero_le (show 0 ≤ x by have := HXM.out; omega)
    have hxn : xn < s.wants.length := by have := HXM.out; have := HLN.out; omega
    have X0 := Lib.hid hx0
    have HA2 : Hid (s.answered d = { s with wants := s.wants.set xn d, asked := l }) := Lib.hid (by rw [HANS.out, if_neg hxm]; rfl)
    have HXN := Lib.hid hxn
    obtain ⟨n, hn⟩ : ∃ n, n = s.wants.length := ⟨_, rfl⟩
    have HN := Lib.hid hn
    rw [← hn] at hxn
    have hn16 : n ≤ 16 := by rw [hn]; exact HL16.out
    have hx1 : (xn : Int) < (n : Int) := by omega
    have one2 := nvals_one s.wants
    have hb19 : 0 + n ≤ maxLen := by unfold maxLen; omega
    have hb20 : (0 + n) * 8 ≤ 140737488355328 := by omega
    clear hx0 hxm hn
    rw [← HN.out] at FIN K0
    rw [← HN.out]
    rcases h1 with rfl | rfl
    all_goals
      have hsl := HSL.out
      go_enter Try.func14, Try.ntmps14
      go_upto_region 1 with fail
      refine wp_gen (fun wx => K2 w wx w.heap.size s (.slice an s.names.length cn) (.slice ai n ci) (.slice (some ⟨g, off, none⟩) (l.length + 1) cap)) K0 ?_
      clear K0
      rintro w2 K2'
      have K := Lib.hid K2'
      have c4 : w2.cell? ⟨w.heap.size, 4, none⟩ = some (.int .i64 s.state) := K2'.own.cell 4 _ rfl
      rw [q1] at c4
      have c10 := K2'.own.cell 10 _ rfl
      have c9 := K2'.own.cell 9 _ rfl
      have hlt2 : w.heap.size < w2.heap.size := K2'.own.lt
      have hlt2' : w.heap.size + 1 < w2.heap.size := by obtain ⟨_, _, h2⟩ := K2'.res; exact h2.lt
      have cx := (K2'.bel.cell (p := ⟨g, off, none⟩) HGL.out).trans X0.out
      have hgl2 : g < w2.heap.size := Nat.lt_of_lt_of_le HGL.out K2'.bel.size
      have SB := (HX.out.wants.below K2'.bel).below (below1 w2 (.cells #[] 3))
      rw [← HN.out] at SB
      have SB' := Lib.hid SB
      clear K2' SB
      go_wp2_with (at_builtin; refine wpList_append_any _ rfl (.tmp 54) (.tmp 56) 25 rfl 3 i0 (.int .i64 0) 1 8 Try.underlying25 I.out I0.out I1.out I2.out rfl (by decide) _ 0 [] rfl (sg_none _ 1 _) _ n (nvals s.wants) rfl SB'.out one2 hb19 hb20 ?grow)
      case grow =>
        intro vis w3 hs3 hv3 hk3
        try rw [Nat.zero_add] at hs3
        have b2 := below1 w2 (.cells #[] 3)
        have B3 : Below w2.heap.size w2 w3 := ((Keeps.of_below (F := fun _ => False) b2).trans hk3 (fun k _ h => (vblk_none _ _ _ h).elim)).below (Nat.le_refl _) (fun _ _ h => h)
        have nv : ∀ g, vblk vis = some g → w2.heap.size + 1 ≤ g := fun g hg => (hv3 g hg).elim (fun h => (vblk_none _ _ _ h).elim) (fun h => by simpa using h)
        have k3 := K.out.below B3
        have cx3 := (B3.cell (p := ⟨g, off, none⟩) hgl2).trans cx
        have s3 : Sg w3 1 vis n (nvals s.wants) := hs3
        obtain ⟨gi, oi, cvi, hvi, -, -, hvbi, -, hci, -⟩ := s3.open (by omega)
        have hgi := nv gi hvbi
        have ci3 : w3.cell? ⟨gi, oi + xn, none⟩ = some (.int .i64 (s.wants.getD xn 0 : Nat)) := (hci xn (by omega)).1.trans (nvals_get _ _ HXN.out)
        have fi3 := (hci xn (by omega)).2
        have c10' := k3.own.cell 10 _ rfl
        subst hvi
        have k4 := k3.keeps ((Keeps.refl (fun k => k = gi) w3).set gi (oi + xn) (.int .i64 d) (fun _ => rfl)) (fun g hg => by omega)
        have s4 : Sg (w3.setCell ⟨gi, oi + xn, none⟩ (.int .i64 d)) 1 (.slice (some ⟨gi, oi, none⟩) n cvi) n (nvals (s.wants.set xn d)) := by
          have h := s3.set xn hxn (.int .i64 d)
          rwa [show (nvals s.wants).set xn (.int .i64 d) = nvals (s.wants.set xn d) by simp [nvals, List.map_set]] at h
        have K4 := Lib.hid k4
        have S4 := Lib.hid s4
        have NV := Lib.hid nv
        obtain ⟨u, hu⟩ : ∃ u, u = s.wants.getD xn 0 := ⟨_, rfl⟩
        rw [← hu] at ci3
        clear hs3 hv3 hk3 b2 B3 nv k3 s3 hci k4 s4 c4 c9 c10 cx SB' K hu
        go_upto_region 12 with fail
        refine wp_gen (fun wx => K2 w wx w.heap.size s (.slice an s.names.length cn) (.slice ai n ci) (.slice (some ⟨g, off, none⟩) (l.length + 1) cap) ∧ Sg wx 1 (.slice (some ⟨gi, oi, none⟩) n cvi) n (nvals (s.wants.set xn d))) ⟨K4.out, S4.out⟩ ?_
        clear K4 S4 ci3 fi3 cx3 c10' hx1 hgl2
        rintro w4 ⟨k4, s4⟩
        have c9 := k4.own.cell 9 _ rfl
        have c10 := k4.own.cell 10 _ rfl
        have f9 := k4.own.free 9
        have f10 := k4.own.free 10
        have e10 : ((kcells s (.slice an s.names.length cn) (.slice ai n ci) (.slice (some ⟨g, off, none⟩) (l.length + 1) cap)).set 9 (.slice (some ⟨gi, oi, none⟩) n cvi)).set 10 (.slice a2 l.length c2) = kcells (s.answered d) (.slice an s.names.length cn) (.slice (some ⟨gi, oi, none⟩) n cvi) (.slice a2 l.length c2) := by rw [HA2.out]; rfl
        have k6 : K2 w ((w4.setCell ⟨w.heap.size, 9, none⟩ (.slice (some ⟨gi, oi, none⟩) n cvi)).setCell ⟨w.heap.size, 10, none⟩ (.slice a2 l.length c2)) w.heap.size (s.answered d) (.slice an s.names.length cn) (.slice (some ⟨gi, oi, none⟩) n cvi) (.slice a2 l.length c2) := by
          have h := k4.num 9 (.slice (some ⟨gi, oi, none⟩) n cvi) { s with wants := s.wants } (.slice an s.names.length cn) (.slice (some ⟨gi, oi, none⟩) n cvi) (.slice (some ⟨g, off, none⟩) (l.length + 1) cap) rfl
          exact h.num 10 (.slice a2 l.length c2) (s.answered d) _ _ (.slice a2 l.length c2) (by rw [← e10]; rfl)
        have s6 : Sg ((w4.setCell ⟨w.heap.size, 9, none⟩ (.slice (some ⟨gi, oi, none⟩) n cvi)).setCell ⟨w.heap.size, 10, none⟩ (.slice a2 l.length c2)) 1 (.slice (some ⟨gi, oi, none⟩) n cvi) n (nvals (s.wants.set xn d)) :=
          s4.keeps (((Keeps.refl (fun k => k = w.heap.size) w4).set _ 9 _ (fun _ => rfl)).set _ 10 _ (fun _ => rfl)) (fun g' hg' e => by have e' := hvbi.symm.trans hg'; have := Option.some.inj e'; omega)
        have K6 := Lib.hid k6
        have S6 := Lib.hid s6
        clear k4 s4 k6 s6 e10
        go_upto_region 14 with fail
        refine wp_gen (fun wx => K2 w wx w.heap.size (s.answered d) (.slice an s.names.length cn) (.slice (some ⟨gi, oi, none⟩) n cvi) (.slice a2 l.length c2) ∧ Sg wx 1 (.slice (some ⟨gi, oi, none⟩) n cvi) n (nvals (s.wants.set xn d))) ⟨K6.out, S6.out⟩ ?_
        clear K6 S6 c9 c10 f9 f10 hsl
        rintro w8 ⟨k8, s8⟩
        have K := Lib.hid k8
        obtain ⟨xs, hcl, hcs⟩ := k8.res
        have HCS := Lib.hid hcs
        have HCL := Lib.hid hcl
        have hone := kc_any (s.answered d) (.slice an s.names.length cn) (.slice (some ⟨gi, oi, none⟩) n cvi) (.slice a2 l.length c2) rfl rfl VS.out
        have KR := Lib.hid (k8.row (cs := kcells (s.answered d) (.slice an s.names.length cn) (.slice (some ⟨gi, oi, none⟩) n cvi) (.slice a2 l.length c2)) rfl)
        have K9 := Lib.hid (hcs.setRow (kcells (s.answered d) (.slice an s.names.length cn) (.slice (some ⟨gi, oi, none⟩) n cvi) (.slice a2 l.length c2)))
        have KW := Lib.hid (Keeps.row w8 (w.heap.size + 1) (kcells (s.answered d) (.slice an s.names.length cn) (.slice (some ⟨gi, oi, none⟩) n cvi) (.slice a2 l.length c2)).toArray)
        clear k8 hcs hcl

        have SW := Lib.hid (s8.keeps KW.out (fun g' hg' e => by have e' := hvbi.symm.trans hg'; have := Option.some.inj e'; omega))
        clear s8
        go_wp2_with (first | refine load_blk K.out.own Try.underlying31 rfl keeper_size' rfl rfl rfl rfl ?_ | refine store_blk HCS.out keeper_size' rfl HCL.out hone rfl rfl rfl rfl ?_)
        refine K2.ret K9.out rfl rfl rfl rfl ?_
        refine FIN.out _ _ KR.out.bel ?_ (fun g' hg' => .inr (by have := NV.out g' hg'; omega))
        rw [HA2.out]
        show Sg _ 1 _ (s.wants.set xn d).length _
        rw [List.length_set, ← HN.out]
        exact SW.out
theorem rtold_ok (s : KS) (vn vi va : Value) (w : World) (H : RX w s vn vi va) (ho : s.Ok) (what : Int) :
    Calls Try.prog 14 #[rv s vn vi va, .int .i64 what] w fun e w' => ∃ vi' va' vo, e = .returned (.tuple #[rv (s.told what).1 vn vi' va', vo]) ∧ RDid w w' (s.told what).1 vn vi va vi' va' vo (s.told what).2 := by
  unfold KS.told
  split
  · rename_i h; obtain ⟨rfl, h2⟩ := h; exact rtold_entered s vn vi va w H ho h2
  · rename_i h1
    split
    · rename_i h; obtain ⟨rfl, h2⟩ := h; exact rtold_lost s vn vi va w H ho h2
    · rename_i h2
      split
      · rename_i h; exact rtold_answer s vn vi va w H ho what h.1 h.2.1 h.2.2
      · rename_i h3; exact rtold_none s vn vi va w H ho what h1 h2 h3
end Go.Proofs.Ytaenfkekdhnakaa
