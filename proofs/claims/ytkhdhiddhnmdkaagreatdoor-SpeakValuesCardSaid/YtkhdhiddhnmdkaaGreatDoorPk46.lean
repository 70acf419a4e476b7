/-
The document's Canon.
SpeakValues: a term's value.
-/
import Derived.Test.YtkhdhiddhnmdkaaGreatDoorPk44
import Derived.Test.YtkhdhiddhnmdkaaGreatDoorPk45
namespace Go.Proofs.YtkhdhiddhnmdkaaGreatDoor
open Go.RowKit Tm
set_option maxRecDepth 100000
namespace Tv
theorem mapM_snoc {g : S → Option S} {a us : List S} {x u : S} (h : a.mapM g = some us) (hu : g x = some u) : (a ++ [x]).mapM g = some (us ++ [u]) := by
  rw [List.mapM_append, h]
  simp [hu]
theorem mapM_none {g : S → Option S} {x : S} : ∀ {l : List S}, x ∈ l → g x = none → l.mapM g = none
  | [], h, _ => by cases h
  | y :: r, h, hx => by
    rw [List.mapM_cons]
    rcases List.mem_cons.1 h with rfl | h
    · rw [hx]; rfl
    · cases hg : g y
      · rfl
      · have := mapM_none h hx
        simp [this]
theorem mapM_len {g : S → Option S} : ∀ {l us : List S}, l.mapM g = some us → us.length = l.length
  | [], us, h => by
    rw [List.mapM_nil] at h
    obtain rfl := Option.some.inj h
    rfl
  | y :: r, us, h => by
    rw [List.mapM_cons] at h
    simp only [Option.bind_eq_bind, Option.bind_eq_some_iff, Option.pure_def, Option.some.injEq] at h
    obtain ⟨u, _, us', h2, rfl⟩ := h
    simp [mapM_len h2]
theorem mapM_mem {g : S → Option S} {u : S} : ∀ {l us : List S}, l.mapM g = some us → u ∈ us → ∃ p, p ∈ l ∧ g p = some u
  | [], us, h, hu => by
    rw [List.mapM_nil] at h
    obtain rfl := Option.some.inj h
    cases hu
  | y :: r, us, h, hu => by
    rw [List.mapM_cons] at h
    simp only [Option.bind_eq_bind, Option.bind_eq_some_iff, Option.pure_def, Option.some.injEq] at h
    obtain ⟨v, h1, us', h2, rfl⟩ := h
    rcases List.mem_cons.1 hu with rfl | hu
    · exact ⟨y, List.mem_cons_self .., h1⟩
    · obtain ⟨p, hp, hpu⟩ := mapM_mem h2 hu
      exact ⟨p, List.mem_cons_of_mem _ hp, hpu⟩
theorem mem_join {p : S} : ∀ {l : List S}, p ∈ l → p.length ≤ (Tm.join l).length
  | [], h => by cases h
  | [a], h => by
    have : p = a := by simpa using h
    rw [this]
    exact Nat.le_refl _
  | a :: b :: r, h => by
    rw [Tm.join_cons a (b :: r) (by simp), List.length_append, List.length_cons]
    rcases List.mem_cons.1 h with rfl | h
    · omega
    · have := mem_join h
      omega
theorem cN_atom {f : Nat} {s : S} (h : (split s).2 = []) : cN lt (f + 1) s = if (∀ c ∈ s, low c = true) ∧ 1 ≤ s.length ∧ s.length ≤ 16 then some s else none := by
  unfold cN
  generalize split s = p at *
  obtain ⟨w, ps⟩ := p
  simp only at h
  subst h
  rfl
theorem cN_node {f : Nat} {s : S} (h : (split s).2 ≠ []) : cN lt (f + 1) s = if s.getLast? = some 41 ∧ cnt (split s).1 = (split s).2.length then ((split s).2.mapM (cN lt f)).map (Tm.write lt (split s).1) else none := by
  conv => lhs; unfold cN
  generalize split s = p at *
  obtain ⟨w, ps⟩ := p
  match ps, h with
  | p :: r, _ => rfl
theorem split_kind {s : S} (h : (split s).2 = []) : (split s).1 = kAtom := by
  unfold split at *
  split at h
  · rfl
  · rename_i x m hm
    simp only at h
    split at h
    · cases h
    · exact absurd h (sp_ne _ _ _)
theorem split_pos {s : S} (h : (split s).2 ≠ []) : 0 < s.length := by
  cases s with
  | nil => exact absurd rfl h
  | cons => simp
theorem part_len {s : S} {p : S} (hl : s.getLast? = some 41) (hp : p ∈ (split s).2) : p.length < s.length := by
  have hne : (split s).2 ≠ [] := fun e => by rw [e] at hp; cases hp
  have hb := split_back (s := s) (w := (split s).1) (ps := (split s).2) rfl hne hl
  have h1 := mem_join hp
  have h2 := congrArg List.length hb
  simp only [List.length_append, List.length_cons, List.length_nil] at h2
  omega
theorem meas5 {i : Nat} (h : i < 5) : 5 - (intOf (Value.int .i64 ((i : Int) + 1))).toNat < 5 - (intOf (Value.int .i64 (i : Int))).toNat := by simp [intOf]; omega
def CPost (res : Option S) (e : Ending) : Prop := match res with
  | some u => e = .returned (.tuple #[.string (by8 u), .bool true])
  | none => ∃ x, e = .returned (.tuple #[.string x, .bool false])
def COk (f : Nat) : Prop := ∀ (s : S) (w : World), s.length < f → s.length ≤ 1000 → Calls Tryz.prog 6 #[.string (by8 s)] w fun e w' => CPost (cN lt f s) e ∧ Below w.heap.size w w'
set_option maxHeartbeats 16000000 in
theorem canon_step (f : Nat) (ih : COk f) : COk (f + 1) := by
  intro s w hf hs
  have hsz : (by8 s).size = s.length := by8_size s
  have hsz2 : (by8 s).size ≤ 1000 := by omega
  have SPL := split_ok s hs w
  obtain ⟨wd, hwd⟩ : ∃ wd, (split s).1 = wd := ⟨_, rfl⟩
  obtain ⟨ps, hps⟩ : ∃ ps, (split s).2 = ps := ⟨_, rfl⟩
  rw [hwd, hps] at SPL
  go_enter Tryz.func6, Tryz.ntmps6
  go_upto_region 2 with (go_at_call 10; refine SPL.mono ?_; rintro e w1 ⟨v, rfl, hSL⟩)
  have hvs := hSL.sg
  obtain ⟨_, ao, cap, rfl, _⟩ := hvs
  by_cases hp0 : ps = []
  · have HCN := Lib.hid (cN_atom (f := f) (hps.trans hp0))
    have hkd := split_kind (hps.trans hp0)
    rw [hwd] at hkd
    subst hkd
    subst hp0
    have EQ : ((by8 kAtom).toList == [97, 116, 111, 109]) = true := by decide +kernel
    obtain ⟨b, hb⟩ : ∃ b, b = by8 s := ⟨_, rfl⟩
    have HB := Lib.hid hb
    have hbl : Hid (b.data.toList = s) := by show _ = _; rw [hb, by8_l]
    rw [← hb] at hsz hsz2 ⊢
    clear hb hwd hps
    have HBE := Lib.hid hSL.be
    clear SPL hSL
    simp only [List.length_nil]
    go_upto_region 4 with fail
    go_loopw [6] (fun v wr => ∃ i : Nat, v = .int .i64 i ∧ i ≤ b.size ∧ wr = w1 ∧ Hid (∀ c ∈ b.data.toList.take i, low c = true)) (fun v _ => 2000 - (intOf v).toNat)
    case atStart => exact ⟨0, rfl, by omega, rfl, Lib.hid (by intro c h; cases h)⟩
    case round =>
      obtain ⟨i, rfl, hi, rfl, ha⟩ := hrel
      rcases Nat.lt_or_ge i b.size with h | h
      · have HM := Lib.hid (fun hc => take_more h ha.out hc)
        have GL : Hid (s[i]? = some (b[i]'h)) := by show _ = _; rw [← hbl.out]; exact get_l b i h
        have hx := (b[i]'h).toNat_lt
        clear ha
        by_cases c1 : 97 ≤ (b[i]'h).toNat
        · have c3 : 48 ≤ (b[i]'h).toNat := by omega
          have c4 : ¬ (b[i]'h).toNat ≤ 57 := by omega
          by_cases c2 : (b[i]'h).toNat ≤ 122
          · have q97 : ((97 : Int) ≤ (((b[i]'h).toNat : Nat) : Int)) = True := eq_true (by omega)
            have q122 : ((((b[i]'h).toNat : Nat) : Int) ≤ 122) = True := eq_true (by omega)
            have q48 : ((48 : Int) ≤ (((b[i]'h).toNat : Nat) : Int)) = True := eq_true (by omega)
            have q57 : ((((b[i]'h).toNat : Nat) : Int) ≤ 57) = False := eq_false (by omega)
            have HM2 := Lib.hid (HM.out (low_lo c1 c2))
            clear GL HM
            go_wp2_with fail
            go_roundw
            case rel => exact ⟨i + 1, by go_num, by omega, trivial, HM2⟩
            case measure => simp [intOf]; omega
          · have q97 : ((97 : Int) ≤ (((b[i]'h).toNat : Nat) : Int)) = True := eq_true (by omega)
            have q122 : ((((b[i]'h).toNat : Nat) : Int) ≤ 122) = False := eq_false (by omega)
            have q48 : ((48 : Int) ≤ (((b[i]'h).toNat : Nat) : Int)) = True := eq_true (by omega)
            have q57 : ((((b[i]'h).toNat : Nat) : Int) ≤ 57) = False := eq_false (by omega)
            have LN : Hid (low (b[i]'h) = false) := low_no (fun h => c2 h.2) (fun h => by omega)
            have HR : Hid (cN lt (f + 1) s = none) := by
              show _ = _
              rw [HCN.out, if_neg (fun hh => by
                have := hh.1 _ (List.mem_of_getElem? GL.out)
                rw [LN.out] at this
                cases this)]
            clear GL HM
            go_wp2_with fail
            go_ret2
            exact ⟨by rw [HR.out]; exact ⟨_, rfl⟩, HBE.out⟩
        · by_cases c3 : 48 ≤ (b[i]'h).toNat
          · by_cases c4 : (b[i]'h).toNat ≤ 57
            · have q97 : ((97 : Int) ≤ (((b[i]'h).toNat : Nat) : Int)) = False := eq_false (by omega)
              have q48 : ((48 : Int) ≤ (((b[i]'h).toNat : Nat) : Int)) = True := eq_true (by omega)
              have q57 : ((((b[i]'h).toNat : Nat) : Int) ≤ 57) = True := eq_true (by omega)
              have HM2 := Lib.hid (HM.out (low_di c3 c4))
              clear GL HM
              go_wp2_with fail
              go_roundw
              case rel => exact ⟨i + 1, by go_num, by omega, trivial, HM2⟩
              case measure => simp [intOf]; omega
            · have q97 : ((97 : Int) ≤ (((b[i]'h).toNat : Nat) : Int)) = False := eq_false (by omega)
              have q48 : ((48 : Int) ≤ (((b[i]'h).toNat : Nat) : Int)) = True := eq_true (by omega)
              have q57 : ((((b[i]'h).toNat : Nat) : Int) ≤ 57) = False := eq_false (by omega)
              have LN : Hid (low (b[i]'h) = false) := low_no (fun h => c1 h.1) (fun h => c4 h.2)
              have HR : Hid (cN lt (f + 1) s = none) := by
                show _ = _
                rw [HCN.out, if_neg (fun hh => by
                  have := hh.1 _ (List.mem_of_getElem? GL.out)
                  rw [LN.out] at this
                  cases this)]
              clear GL HM
              go_wp2_with fail
              go_ret2
              exact ⟨by rw [HR.out]; exact ⟨_, rfl⟩, HBE.out⟩
          · have q97 : ((97 : Int) ≤ (((b[i]'h).toNat : Nat) : Int)) = False := eq_false (by omega)
            have q48 : ((48 : Int) ≤ (((b[i]'h).toNat : Nat) : Int)) = False := eq_false (by omega)
            have LN : Hid (low (b[i]'h) = false) := low_no (fun h => c1 h.1) (fun h => c3 h.1)
            have HR : Hid (cN lt (f + 1) s = none) := by
              show _ = _
              rw [HCN.out, if_neg (fun hh => by
                have := hh.1 _ (List.mem_of_getElem? GL.out)
                rw [LN.out] at this
                cases this)]
            clear GL HM
            go_wp2_with fail
            go_ret2
            exact ⟨by rw [HR.out]; exact ⟨_, rfl⟩, HBE.out⟩
      · obtain rfl : i = b.size := by omega
        have hall : ∀ c ∈ s, low c = true := by
          have h1 := ha.out
          rw [hbl.out, hsz, List.take_length] at h1
          exact h1
        have HR : Hid (cN lt (f + 1) s = if 1 ≤ s.length ∧ s.length ≤ 16 then some s else none) := by
          show _ = _
          rw [HCN.out]
          by_cases hl : 1 ≤ s.length ∧ s.length ≤ 16
          · rw [if_pos ⟨hall, hl⟩, if_pos hl]
          · rw [if_neg (fun hh => hl hh.2), if_neg hl]
        clear ha hall
        by_cases h1 : 1 ≤ s.length
        · have HR2 : Hid (CPost (cN lt (f + 1) s) (.returned (.tuple #[.string b, .bool (decide ((s.length : Int) ≤ 16))]))) := by
            show CPost _ _
            rw [HR.out, HB.out]
            by_cases h16 : s.length ≤ 16
            · rw [if_pos ⟨h1, h16⟩, decide_eq_true (by omega)]; exact rfl
            · rw [if_neg (fun hh => h16 hh.2), decide_eq_false (by omega)]; exact ⟨_, rfl⟩
          go_wp2_with fail
          go_ret2
          exact ⟨HR2.out, HBE.out⟩
        · have HR2 : Hid (CPost (cN lt (f + 1) s) (.returned (.tuple #[.string b, .bool false]))) := by
            show CPost _ _
            rw [HR.out, if_neg (fun hh => h1 hh.1)]
            exact ⟨_, rfl⟩
          go_wp2_with fail
          go_ret2
          exact ⟨HR2.out, HBE.out⟩
  · have hne : (split s).2 ≠ [] := fun e => hp0 (hps.symm.trans e)
    have HCN := Lib.hid (cN_node (f := f) hne)
    rw [hwd, hps] at HCN
    have hpos := split_pos hne
    have hpl : 0 < ps.length := List.length_pos_iff.2 hp0
    have HPL := Lib.hid (fun hl p (hp : p ∈ ps) => part_len (s := s) (p := p) hl (by rw [hps]; exact hp))
    have HPC := Lib.hid (fun hl => by
      have hb := split_back (s := s) (w := (split s).1) (ps := (split s).2) rfl hne hl
      rw [hwd, hps] at hb
      have h := congrArg List.length hb
      simp only [List.length_append, List.length_cons, List.length_nil] at h
      exact (show wd.length < s.length ∧ (Tm.join ps).length < s.length from ⟨by omega, by omega⟩))
    obtain ⟨j0, hj, hz0, hz1, hz2⟩ := info_parts strInfo
    have I := Lib.hid hj
    have I0 := Lib.hid hz0
    have I1 := Lib.hid hz1
    have I2 := Lib.hid hz2
    clear hj hz0 hz1 hz2 SPL hwd hps hne hp0
    obtain ⟨b, hb⟩ : ∃ b, b = by8 s := ⟨_, rfl⟩
    have HB := Lib.hid hb
    have hbl : Hid (b.data.toList = s) := by show _ = _; rw [hb, by8_l]
    rw [← hb] at hsz hsz2 ⊢
    clear hb
    go_cut [25] (fun v25 wx => v25 = .bool false ∧ wx = w1)
    case first =>
      have hz : ((ps.length : Int) == 0) = false := beq_eq_false_iff_ne.2 (by omega)
      by_cases hka : wd = kAtom
      · have EQ : ((by8 wd).toList == [97, 116, 111, 109]) = true := beq_l true (by simp [show wd = [97, 116, 111, 109] from hka])
        clear hka
        go_wp2_with fail
        go_meet
        exact ⟨rfl, rfl⟩
      · have EQ : ((by8 wd).toList == [97, 116, 111, 109]) = false := beq_l false (by simp [show wd ≠ [97, 116, 111, 109] from hka])
        clear hka
        go_wp2_with fail
        go_meet
        exact ⟨rfl, rfl⟩
    case rest =>
    obtain ⟨rfl, rfl⟩ := hcut
    obtain ⟨q, hq⟩ : ∃ q, q = s.length - 1 := ⟨_, rfl⟩
    have hqi : (s.length : Int) - 1 = (q : Nat) := by omega
    have hqb : q < b.size := by omega
    have GL : Hid (s.getLast? = some (b[q]'hqb)) := by
      show _ = _
      rw [List.getLast?_eq_getElem?, ← hq, ← hbl.out]
      exact get_l b q hqb
    have hx := (b[q]'hqb).toNat_lt
    have HSL := Lib.hid hSL
    clear hSL hq
    by_cases h41 : (b[q]'hqb).toNat = 41
    · have HL : Hid (s.getLast? = some 41) := by
        show _ = _
        rw [GL.out]
        congr 1
        exact UInt8.toNat_inj.1 h41
      have d41 : ((((b[q]'hqb).toNat : Nat) : Int) != 41) = false := by rw [bne_eq_false_iff_eq]; omega
      have CT := refCount_ok wd
      obtain ⟨n, hn⟩ : ∃ n, cnt wd = n := ⟨_, rfl⟩
      have HN := Lib.hid hn
      have hn2 := cnt_le wd
      rw [hn] at CT hn2
      clear hn GL
      by_cases hnp : n = ps.length
      · have hnn : ((n : Int) != (ps.length : Int)) = false := by rw [bne_eq_false_iff_eq]; omega
        have hp12 : ps.length = 1 ∨ ps.length = 2 := by omega
        have HC2 : Hid (cN lt (f + 1) s = (ps.mapM (cN lt f)).map (Tm.write lt wd)) := by
          show _ = _
          rw [HCN.out, if_pos ⟨HL.out, HN.out.trans hnp⟩]
        have HNP := Lib.hid hnp
        clear hnp hn2
        go_upto_region 15 with (go_at_call 15; refine (CT _).mono ?_; rintro e w2 ⟨rfl, hb2⟩)
        have E0 : SL w2 (w2.alloc (.cells #[] 9)) (.slice (some ⟨w2.heap.size, 0, none⟩) 0 0) [] := SL.empty w2 _ _
        have E1 := E0.base hb2
        have HS2 := (HSL.out.below hb2)
        obtain ⟨g, off, cap2, e, hcap, hvb, hgl, hcell⟩ := HSL.out.cell hpl
        simp only [Value.slice.injEq] at e
        obtain ⟨rfl, _, rfl⟩ := e
        have HCELL := Lib.hid (fun w' (hb : Below wc.heap.size wc w') i x (hx : ps[i]? = some x) => (show w'.cell? ⟨g, off + i, none⟩ = some (.string (by8 x)) by rw [hb.cell (p := ⟨g, off + i, none⟩) hgl]; exact hcell i x hx))
        have HE1 := Lib.hid E1
        clear hcell HS2 E0 hb2 hgl hvb
        go_loopw [9, 83] (fun v9 v83 wr => ∃ (i : Nat) (us : List S), v83 = .int .i64 i ∧ i ≤ ps.length ∧ SL wc wr v9 us ∧ Hid ((ps.take i).mapM (cN lt f) = some us) ∧ us.length = i) (fun _ v83 _ => 5 - (intOf v83).toNat)
        case atStart => exact ⟨0, [], rfl, by omega, HE1.out, Lib.hid rfl, rfl⟩
        case round =>
          obtain ⟨i, us, rfl, hi, hUS, hmm, hul⟩ := hrel
          by_cases hgo : i < ps.length
          · have hxi := List.getElem?_eq_getElem hgo
            have hmem := List.mem_of_getElem? hxi
            have hpl2 := HPL.out HL.out _ hmem
            have hc := HCELL.out _ hUS.be i _ hxi
            have HTK : Hid (ps.take (i + 1) = ps.take i ++ [ps[i]]) := by show _ = _; rw [List.take_add_one, hxi]; rfl
            have IH := ih ps[i] 
            have HMEM := Lib.hid hmem
            clear hxi hmem
            generalize ps[i] = x at *
            have IHx := fun w' => IH w' (by omega) (by omega)
            cases hcx : cN lt f x with
            | none =>
              rw [hcx] at IHx
              have HR : Hid (cN lt (f + 1) s = none) := by
                show _ = _
                rw [HC2.out, mapM_none HMEM.out hcx]
                rfl
              have HBE := Lib.hid hUS.be
              clear hcx IH hUS
              go_wp2_with (go_at_call 6; refine (IHx _).mono ?_; rintro e w5 ⟨⟨y, rfl⟩, hb5⟩)
              go_ret2
              exact ⟨by rw [HR.out]; exact ⟨_, rfl⟩, HSL.out.be.trans ((HBE.out.trans (hb5.mono HBE.out.size)).mono HSL.out.be.size)⟩
            | some u =>
              rw [hcx] at IHx
              replace IHx : ∀ w', Calls Tryz.prog 6 #[.string (by8 x)] w' fun e w'' => e = .returned (.tuple #[.string (by8 u), .bool true]) ∧ Below w'.heap.size w' w'' := IHx
              have HM2 : Hid ((ps.take (i + 1)).mapM (cN lt f) = some (us ++ [u])) := by
                show _ = _
                rw [HTK.out]
                exact mapM_snoc hmm.out hcx
              have HUS := Lib.hid hUS
              have HUL := Lib.hid hul
              have hu2 : us.length ≤ 2 := by omega
              have hi5 : i < 5 := by omega
              clear hul
              have m1 : us.length + 1 ≤ maxLen := by unfold maxLen; omega
              have m2 : (us.length + 1) * 16 ≤ 140737488355328 := by omega
              have OSV := sv_one [u]
              clear hcx IH hUS
              go_upto_region 20 with (go_at_call 6; refine (IHx _).mono ?_; rintro e w5 ⟨rfl, hb5⟩)
              have US5 := HUS.out.below hb5
              have HU5 := Lib.hid US5
              have hu := lit_str w5 u
              have hsv := (US5.below (below1 w5 (.cells #[.string (by8 u)] 9))).sg
              clear US5 hb5
              go_wp2_with (at_builtin; refine wpList_append_any _ rfl (.tmp 94) (.tmp 96) 34 rfl 9 j0 (.string ⟨#[]⟩) 1 16 Tryz.underlying34 I.out I0.out I1.out I2.out rfl (by decide) _ us.length _ rfl hsv _ 1 (sv [u]) rfl hu OSV m1 m2 ?grow)
              case grow =>
                intro v' w6 hs6 hv6 hk6
                have R6 := Lib.hid (HU5.out.app (x := u) hs6 hv6 hk6)
                clear hs6 hv6 hk6 hu hsv
                go_wp2_with fail
                go_roundw
                case rel => exact ⟨i + 1, us ++ [u], by go_num, by omega, R6.out, HM2, by rw [List.length_append, HUL.out]; rfl⟩
                case measure => exact meas5 hi5
          · obtain rfl : i = ps.length := by omega
            have hm := hmm.out
            rw [List.take_length] at hm
            have hlen : us.length = 1 ∨ us.length = 2 := by omega
            have hkk : wd = kShare → us.length = 2 := fun e => by
              have h1 := HN.out
              rw [e] at h1
              have h2 := HNP.out
              have : cnt kShare = 2 := by decide
              omega
            have hul2 : ∀ x ∈ us, x.length ≤ 1000 := fun x hx => by
              obtain ⟨p, hp, hpx⟩ := mapM_mem hm hx
              obtain ⟨t, _, rfl, rfl⟩ := c_sound lt f p x hpx
              have h1 := HPL.out HL.out _ hp
              rw [cn_len]
              omega
            have HR : Hid (cN lt (f + 1) s = some (Tm.write lt wd us)) := by
              show _ = _
              rw [HC2.out, hm]
              rfl
            have hwl := (HPC.out HL.out).1
            have WR := write_ok wd us _ wc wr hUS hlen hkk (by omega) hul2
            have HBE := Lib.hid hUS.be
            clear hm hmm hkk hul2 hUS hul hlen
            generalize Tm.write lt wd us = RES at *
            go_wp2_with (go_at_call 16; refine WR.mono ?_; rintro e w5 ⟨rfl, hb5⟩)
            go_ret2
            exact ⟨by rw [HR.out]; exact rfl, HSL.out.be.trans ((HBE.out.trans (hb5.mono HBE.out.size)).mono HSL.out.be.size)⟩
      · have hnn : ((n : Int) != (ps.length : Int)) = true := by rw [bne_iff_ne]; omega
        have HR : Hid (cN lt (f + 1) s = none) := by
          show _ = _
          rw [HCN.out, if_neg (fun hh => hnp (HN.out.symm.trans hh.2))]
        clear hnp hn2
        go_wp2_with (go_at_call 15; refine (CT _).mono ?_; rintro e w2 ⟨rfl, hb2⟩)
        go_ret2
        exact ⟨by rw [HR.out]; exact ⟨_, rfl⟩, HSL.out.be.trans (hb2.mono HSL.out.be.size)⟩
    · have d41 : ((((b[q]'hqb).toNat : Nat) : Int) != 41) = true := by rw [bne_iff_ne]; omega
      have HR : Hid (cN lt (f + 1) s = none) := by
        show _ = _
        rw [HCN.out, if_neg (fun hh => by
          have h := hh.1
          rw [GL.out] at h
          exact h41 (by rw [Option.some.inj h]; rfl))]
      clear h41 GL
      go_wp2_with fail
      go_ret2
      exact ⟨by rw [HR.out]; exact ⟨_, rfl⟩, HSL.out.be⟩
theorem canon_all : ∀ f, COk f
  | 0 => fun _ _ hf => absurd hf (Nat.not_lt_zero _)
  | f + 1 => canon_step f (canon_all f)
end Tv
end Go.Proofs.YtkhdhiddhnmdkaaGreatDoor

namespace Go.Proofs.YtkhdhiddhnmdkaaGreatDoor
open Go.RowKit Sha Cha Tm
set_option maxRecDepth 100000
namespace Tv
theorem wf_kw {k : S} (h : k ∈ kw1 ∨ k ∈ kw2) : k ≠ kAtom := by
  rintro rfl
  revert h
  decide
set_option maxHeartbeats 8000000 in
theorem value_list (ts : List T) (vf : T → S) (k s : S) (R : S) (hs : s.length ≤ 1000) (hsp : split s = (k, ts.map txt)) (hka : k ≠ kAtom) (hn0 : 0 < ts.length) (hts : ts.length ≤ 2) (w : World)
    (ih : ∀ t ∈ ts, ∀ w', Below w.heap.size w w' → Calls Tryz.prog 8 #[.string (by8 (txt t))] w' fun e w'' => e = .returned (.string (by8 (vf t))) ∧ Below w'.heap.size w' w'')
    (BT : ∀ wc v w', Below w.heap.size w w' → SL wc w' v (ts.map vf) → Calls Tryz.prog 12 #[.string (by8 k), v] w' fun e w'' => e = .returned (.string (by8 R)) ∧ Below w'.heap.size w' w'') :
    Calls Tryz.prog 8 #[.string (by8 s)] w fun e w' => e = .returned (.string (by8 R)) ∧ Below w.heap.size w w' := by
  obtain ⟨j0, hj, hj0, hj1, hj2⟩ := info_parts strInfo
  have I := Lib.hid hj
  have I0 := Lib.hid hj0
  have I1 := Lib.hid hj1
  have I2 := Lib.hid hj2
  clear hj hj0 hj1 hj2
  have SPL := split_ok s hs w
  rw [hsp] at SPL
  have EQ : ((by8 k).toList == [97, 116, 111, 109]) = false := by
    have h := str_eq k kAtom
    rw [decide_eq_false hka, ByteArray.toList_eq (by8 kAtom)] at h
    exact h
  have hpl : (ts.map txt).length = ts.length := List.length_map ..
  have IHH := Lib.hid ih
  have BTH := Lib.hid BT
  have LN := Lib.hid hpl
  have GT : ∀ i x, ts[i]? = some x → (ts.map txt)[i]? = some (txt x) := fun i x h => by rw [List.getElem?_map, h]; rfl
  have GTH := Lib.hid GT
  clear hsp hka ih BT GT
  obtain ⟨n, hn⟩ : ∃ n, n = ts.length := ⟨_, rfl⟩
  have HN := Lib.hid hn
  rw [← hn] at hpl hn0 hts
  obtain ⟨ps, hps⟩ : ∃ ps, ps = ts.map txt := ⟨_, rfl⟩
  rw [← hps] at hpl SPL
  have HPS := Lib.hid hps
  clear hn hps
  go_enter Tryz.func8, Tryz.ntmps8
  go_upto_region 2 with (go_at_call 10; refine SPL.mono ?_; rintro e w1 ⟨v, rfl, hSL⟩)
  have HSL := Lib.hid hSL
  obtain ⟨g, off, cap, rfl, hcap, -, hgl, hcell⟩ := hSL.cell (by rw [hpl]; exact hn0)
  have HCELL := Lib.hid (fun w' (hb : Below w1.heap.size w1 w') i x (hx : ps[i]? = some x) => (show w'.cell? ⟨g, off + i, none⟩ = some (.string (by8 x)) by rw [hb.cell (p := ⟨g, off + i, none⟩) hgl]; exact hcell i x hx))
  clear hcell hgl hSL SPL
  rw [hpl] at hcap ⊢
  go_upto_region 6 with fail
  have E0 : SL w1 (w1.alloc (.cells #[] 9)) (.slice (some ⟨w1.heap.size, 0, none⟩) 0 0) [] := SL.empty w1 _ _
  have HE1 := Lib.hid E0
  clear E0
  go_loopw [5, 19] (fun v5 v19 wr => ∃ (i : Nat) (us : List S), v19 = .int .i64 i ∧ i ≤ n ∧ SL w1 wr v5 us ∧ Hid ((ts.take i).map vf = us) ∧ us.length = i) (fun _ v19 _ => 5 - (intOf v19).toNat)
  case atStart => exact ⟨0, [], rfl, by omega, HE1.out, Lib.hid rfl, rfl⟩
  case round =>
    obtain ⟨i, us, rfl, hi, hUS, hmm, hul⟩ := hrel
    by_cases hgo : i < n
    · have hgt : i < ts.length := by rw [← HN.out]; exact hgo
      obtain ⟨t, hxi⟩ : ∃ t, ts[i]? = some t := ⟨_, List.getElem?_eq_getElem hgt⟩
      have hmem := List.mem_of_getElem? hxi
      have hc := HCELL.out _ hUS.be i _ (by rw [HPS.out]; exact GTH.out i _ hxi)
      have HTK : Hid ((ts.take (i + 1)).map vf = us ++ [vf t]) := by show _ = _; rw [List.take_add_one, hxi, ← hmm.out, List.map_append]; rfl
      have IHx := Lib.hid (IHH.out _ hmem)
      clear hxi hmem hgt
      have HUS := Lib.hid hUS
      have HUL := Lib.hid hul
      have hu2 : us.length ≤ 2 := by omega
      have hi5 : i < 5 := by omega
      clear hul
      have m1 : us.length + 1 ≤ maxLen := by unfold maxLen; omega
      have m2 : (us.length + 1) * 16 ≤ 140737488355328 := by omega
      have BB : Hid (Below w.heap.size w wr) := Lib.hid (HSL.out.be.trans (hUS.be.mono HSL.out.be.size))
      obtain ⟨u, hu0⟩ : ∃ u, u = vf t := ⟨_, rfl⟩
      rw [← hu0] at IHx HTK
      clear hu0
      have OSV := sv_one [u]
      clear hUS
      go_wp2_with (first | (go_at_call 8; refine (IHx.out _ BB.out).mono ?_; rintro e w5 ⟨rfl, hb5⟩; have HU5 := Lib.hid (HUS.out.below hb5); have hu := lit_str w5 u; have hsv := (HU5.out.below (below1 w5 (.cells #[.string (by8 u)] 9))).sg; clear hb5) | (at_builtin; refine wpList_append_any _ rfl (.tmp 23) (.tmp 26) 34 rfl 9 j0 (.string ⟨#[]⟩) 1 16 Tryz.underlying34 I.out I0.out I1.out I2.out rfl (by decide) _ us.length _ rfl hsv _ 1 (sv [u]) rfl hu OSV m1 m2 ?grow))
      case grow =>
        intro v' w6 hs6 hv6 hk6
        have R6 := Lib.hid (HU5.out.app (x := u) hs6 hv6 hk6)
        clear hs6 hv6 hk6 hu hsv
        go_wp2_with fail
        go_roundw
        case rel => exact ⟨i + 1, us ++ [u], by go_num, by omega, R6.out, HTK, by rw [List.length_append, HUL.out]; rfl⟩
        case measure => exact meas5 hi5
    · obtain rfl : i = n := by omega
      have hm := hmm.out
      rw [HN.out, List.take_length] at hm
      rw [← hm] at hUS
      have BB : Below w.heap.size w wr := HSL.out.be.trans (hUS.be.mono HSL.out.be.size)
      have CB := Lib.hid (BTH.out _ _ wr BB hUS)
      clear hm hmm hUS hul
      go_wp2_with (go_at_call 12; refine CB.out.mono ?_; rintro e w5 ⟨rfl, hb5⟩)
      go_ret
      exact ⟨rfl, BB.trans (hb5.mono BB.size)⟩
section
variable {T_ F Bg : List Int} {Or : List Nat}
theorem bt_hash (x : S) : bt T_ F Bg Or kHash [x] = num T_ F x := rfl
theorem bt_point (x : S) : bt T_ F Bg Or kPoint [x] = multB (num T_ F x) nineB := rfl
theorem bt_key (x : S) : bt T_ F Bg Or kKey [x] = btK T_ F x := rfl
theorem bt_share (x y : S) : bt T_ F Bg Or kShare [x, y] = btS T_ F x y := rfl
theorem bt_sign (x y : S) : bt T_ F Bg Or kSign [x, y] = btG T_ F x y := rfl
theorem bt_seal (x y : S) : bt T_ F Bg Or kSeal [x, y] = sld T_ F Bg Or x y := rfl
theorem bt_pair (x y : S) : bt T_ F Bg Or kPair [x, y] = btP x y := rfl
theorem tx_len (x : S) : (Wob.tx x).length = x.length + 4 := by
  unfold Wob.tx Wob.be4
  rw [List.length_append]
  show 4 + _ = _
  omega
theorem bt_len1 (hF : F.length = 8) {k : S} (hk : k ∈ kw1) (x : S) : (bt T_ F Bg Or k [x]).length = 32 := by
  unfold kw1 at hk
  simp only [List.mem_cons, List.not_mem_nil, or_false] at hk
  rcases hk with rfl | rfl | rfl
  · rw [bt_hash]; exact sum256_len T_ F x hF
  · rw [bt_point]; exact multB_len _ _
  · rw [bt_key]; exact Eds.encP_len _
theorem bt_len2 {k : S} (hk : k ∈ kw2) (x y : S) : (bt T_ F Bg Or k [x, y]).length ≤ 72 + x.length + y.length := by
  unfold kw2 at hk
  simp only [List.mem_cons, List.not_mem_nil, or_false] at hk
  rcases hk with rfl | rfl | rfl | rfl
  · rw [bt_pair]; unfold btP; rw [List.length_append, tx_len, tx_len]; omega
  · rw [bt_share]; unfold btS; rw [multB_len]; omega
  · rw [bt_sign]; unfold btG; rw [List.length_append, tx_len, tx_len, Eds.sgnL_len]; omega
  · rw [bt_seal]; unfold sld Pol.sealL; rw [List.length_append, xorF_len, Pol.mrkL_len]; omega
theorem vlen (hF : F.length = 8) : ∀ t, wf t → (vT (bt T_ F Bg Or) t).length ≤ 80 * (txt t).length
  | .atom w, _ => by show w.length ≤ 80 * w.length; omega
  | .one k a, h => by
    have e := bt_len1 (T_ := T_) (Bg := Bg) (Or := Or) hF h.1 (vT (bt T_ F Bg Or) a)
    have := txt_len (.one k a) h
    show (bt T_ F Bg Or k [vT (bt T_ F Bg Or) a]).length ≤ _
    omega
  | .two k a b, h => by
    have e := bt_len2 (T_ := T_) (F := F) (Bg := Bg) (Or := Or) h.1 (vT (bt T_ F Bg Or) a) (vT (bt T_ F Bg Or) b)
    have ha := vlen hF a h.2.1
    have hb := vlen hF b h.2.2
    have hl : (txt (.two k a b)).length = k.length + (txt a).length + (txt b).length + 3 := by simp [txt]; omega
    show (bt T_ F Bg Or k [vT (bt T_ F Bg Or) a, vT (bt T_ F Bg Or) b]).length ≤ _
    omega
theorem bt_share_eq {w : World} (hT : ShaT w T_ F) (x y : S) : bt T_ F Bg Or kShare [x, y] = bt T_ F Bg Or kShare [y, x] := by
  rw [bt_share, bt_share]
  exact two_eq (num_len hT x) (num_len hT y)
theorem built_one {k : S} (hk : k ∈ kw1) (wc : World) (v : Value) (x : S) (w : World) (hG : VG T_ F Bg Or w) (hl : SL wc w v [x]) (hx : x.length ≤ 90000) :
    Calls Tryz.prog 12 #[.string (by8 k), v] w fun e w' => e = .returned (.string (by8 (bt T_ F Bg Or k [x]))) ∧ Below w.heap.size w w' := by
  unfold kw1 at hk
  simp only [List.mem_cons, List.not_mem_nil, or_false] at hk
  rcases hk with rfl | rfl | rfl
  · rw [bt_hash]; exact built_hash wc v x w hG hl hx
  · rw [bt_point]; exact built_point wc v x w hG hl hx
  · rw [bt_key]; exact built_key wc v x w hG hl hx
theorem built_two {k : S} (hk : k ∈ kw2) (wc : World) (v : Value) (x y : S) (w : World) (hG : VG T_ F Bg Or w) (hl : SL wc w v [x, y]) (hx : x.length ≤ 90000) (hy : y.length ≤ 90000) :
    Calls Tryz.prog 12 #[.string (by8 k), v] w fun e w' => e = .returned (.string (by8 (bt T_ F Bg Or k [x, y]))) ∧ Below w.heap.size w w' := by
  unfold kw2 at hk
  simp only [List.mem_cons, List.not_mem_nil, or_false] at hk
  rcases hk with rfl | rfl | rfl | rfl
  · rw [bt_pair]; exact built_pair wc v x y w hl hx hy
  · rw [bt_share]; exact built_share wc v x y w hG hl hx hy
  · rw [bt_sign]; exact built_sign wc v x y w hG hl hx hy
  · rw [bt_seal]; exact built_seal wc v x y w hG hl hx hy
set_option maxHeartbeats 2000000 in
theorem value_atom (s : S) (hs : s.length ≤ 1000) (hlo : ∀ c ∈ s, low c = true) (w : World) :
    Calls Tryz.prog 8 #[.string (by8 s)] w fun e w' => e = .returned (.string (by8 s)) ∧ Below w.heap.size w w' := by
  have SPL := split_ok s hs w
  rw [split_atom hlo] at SPL
  have EQ : ((by8 kAtom).toList == [97, 116, 111, 109]) = true := by decide +kernel
  clear hlo
  go_enter Tryz.func8, Tryz.ntmps8
  go_wp2_with (go_at_call 10; refine SPL.mono ?_; rintro e w1 ⟨v, rfl, hSL⟩)
  go_ret
  exact ⟨rfl, hSL.be⟩
theorem value_ok : ∀ (t : T) (_ : wf t) (_ : (txt t).length ≤ 1000) (w : World) (_ : VG T_ F Bg Or w),
    Calls Tryz.prog 8 #[.string (by8 (txt t))] w fun e w' => e = .returned (.string (by8 (vT (bt T_ F Bg Or) t))) ∧ Below w.heap.size w w'
  | .atom s, h, hl, w, _ => value_atom s hl h.1 w
  | .one k a, h, hl, w, hG => by
    have hla : (txt a).length ≤ 1000 := by
      have e : (txt (.one k a)).length = k.length + (txt a).length + 2 := by simp [txt]; omega
      omega
    have va := vlen (T_ := T_) (Bg := Bg) (Or := Or) hG.e.t.f a h.2
    refine value_list [a] (vT (bt T_ F Bg Or)) k _ _ hl (split_one h) (wf_kw (.inl h.1)) (Nat.le_refl 1) (Nat.le_of_ble_eq_true rfl) w (fun t ht w' hb => ?_) (fun wc v w' hb hS => ?_)
    · have e1 : t = a := by simpa using ht
      rw [e1]
      exact value_ok a h.2 hla w' (hG.below hb)
    · exact built_one h.1 wc v _ w' (hG.below hb) hS (by omega)
  | .two k a b, h, hl, w, hG => by
    have e : (txt (.two k a b)).length = k.length + (txt a).length + (txt b).length + 3 := by simp [txt]; omega
    have va := vlen (T_ := T_) (Bg := Bg) (Or := Or) hG.e.t.f a h.2.1
    have vb := vlen (T_ := T_) (Bg := Bg) (Or := Or) hG.e.t.f b h.2.2
    refine value_list [a, b] (vT (bt T_ F Bg Or)) k _ _ hl (split_two h) (wf_kw (.inr h.1)) (Nat.le_of_ble_eq_true rfl) (Nat.le_refl 2) w (fun t ht w' hb => ?_) (fun wc v w' hb hS => ?_)
    · simp only [List.mem_cons, List.not_mem_nil, or_false] at ht
      rcases ht with e1 | e1
      · rw [e1]; exact value_ok a h.2.1 (by omega) w' (hG.below hb)
      · rw [e1]; exact value_ok b h.2.2 (by omega) w' (hG.below hb)
    · exact built_two h.1 wc v _ _ w' (hG.below hb) hS (by omega) (by omega)
end
end Tv
end Go.Proofs.YtkhdhiddhnmdkaaGreatDoor
