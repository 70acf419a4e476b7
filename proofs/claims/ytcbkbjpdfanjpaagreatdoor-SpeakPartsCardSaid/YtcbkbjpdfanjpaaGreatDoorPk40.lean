/-
The document's Check of short fields: 0 of a message that may be alone.
-/
import Derived.Test.YtcbkbjpdfanjpaaGreatDoorPk39
namespace Go.Proofs.YtcbkbjpdfanjpaaGreatDoor
open Go.RowKit
set_option maxRecDepth 100000
namespace Rf
open Spl (sv)
open Mg (FV NN uv bv tR)
theorem cnt_next (p : UInt8 → Bool) (ls : S) (i : Nat) (h : i < ls.length) : Ms.cnt p (ls.take (i + 1)) = Ms.cnt p (ls.take i) + (if p (ls.getD i 0) then 1 else 0) := by
  rw [List.take_add_one, Ms.cnt_app, List.getElem?_eq_getElem h, List.getD_eq_getElem?_getD, List.getElem?_eq_getElem h]
  show _ + Ms.cnt p [_] = _
  unfold Ms.cnt
  rw [List.filter_cons]
  simp only [Option.getD_some]
  split <;> rfl
theorem cnt_take (p : UInt8 → Bool) (ls : S) (i : Nat) : Ms.cnt p (ls.take i) ≤ Ms.cnt p ls := by
  have h := congrArg (Ms.cnt p) (List.take_append_drop i ls)
  rw [Ms.cnt_app] at h
  omega
theorem cnt_len (p : UInt8 → Bool) (ls : S) : Ms.cnt p ls ≤ ls.length := by
  unfold Ms.cnt
  exact List.length_filter_le _ _
/-- short fields -/
structure Short (u : List Nat) (s : List S) (n : List (List S)) (b : List Bool) : Prop where
  u : u.length ≤ 9
  s : s.length ≤ 9 ∧ ∀ x ∈ s, x.length ≤ 100
  n : n.length ≤ 14 ∧ ∀ l ∈ n, l.length ≤ 6 ∧ ∀ x ∈ l, x.length ≤ 70
  b : b.length ≤ 9
def RPost (k : Int) (u : List Nat) (s : List S) (n : List (List S)) (b : List Bool) (w : World) (e : Ending) (w' : World) : Prop :=
  (∃ c : Int, e = .returned (.int .i64 c) ∧ (c = 0 → ∃ ls, Ms.letters k = some ls ∧ Ms.fits ls u s n b)) ∧ Below w.heap.size w w'
abbrev p117 : UInt8 → Bool := fun c => decide (c = 117)
abbrev p110 : UInt8 → Bool := fun c => decide (c = 110)
abbrev p98 : UInt8 → Bool := fun c => decide (c = 98)
set_option maxHeartbeats 16000000 in
theorem check_ok (k : Int) (u : List Nat) (s : List S) (n : List (List S)) (b : List Bool) (au aq an ab : Option Addr) (nu cu ns cs nn cn nb cb : Nat) (w : World) (hsh : Short u s n b)
    (hv : FV (fun _ => False) w u s n b au aq an ab nu cu ns cs nn cn nb cb) :
    Calls Tryz.prog 8 #[.agg #[.int .i64 k, .slice au nu cu, .slice aq ns cs, .slice an nn cn, .slice ab nb cb]] w fun e w' => RPost k u s n b w e w' := by
  obtain ⟨g1, g2, g3, g4⟩ := hv.lens
  have HL := Lib.hid (And.intro g1 (And.intro g2 (And.intro g3 g4)))
  have P := Lib.hid (fun w' => fields_ok k w')
  have HH := Lib.hid (And.intro hsh hv)
  have hns : ns ≤ 9 := by have := hsh.s.1; omega
  have hnn : nn ≤ 14 := by have := hsh.n.1; omega
  have hnu : nu ≤ 9 := by have := hsh.u; omega
  have hnb : nb ≤ 9 := by have := hsh.b; omega
  clear g1 g2 g3 g4 hsh hv
  cases hls : Ms.letters k with
  | none =>
    rw [hls] at P
    clear hls
    go_enter Tryz.func8, Tryz.ntmps8
    go_upto_region 1 with fail
    refine wp_gen (fun wx => Blk wx w.heap.size tR [.int .i64 k, .slice au nu cu, .slice aq ns cs, .slice an nn cn, .slice ab nb cb] ∧ Below w.heap.size w wx) ⟨Blk.new w tR [.int .i64 k, .slice au nu cu, .slice aq ns cs, .slice an nn cn, .slice ab nb cb], below1 _ _⟩ ?_
    rintro w1 ⟨O1, B1⟩
    have c0 := O1.cell 0 _ rfl
    go_wp2_with (go_at_call 22; refine (P.out _).mono ?_; rintro e w2 ⟨rfl, rfl⟩)
    go_ret
    exact ⟨⟨20, rfl, fun h => by cases h⟩, B1⟩
  | some ls =>
    rw [hls] at P
    have hlo := Ms.letters_ok hls
    have h6 := hlo.1
    have hrl := hlo.2.1
    have hln : ls.length ≤ 13 := hlo.2.2.1
    have HLS := Lib.hid (And.intro hls (And.intro h6 hrl))
    have H6 : Hid (∀ i, i < ls.length → Ms.six (ls.getD i 0) = true) := Lib.hid fun i hi => by
      have := List.all_eq_true.1 h6 (ls.getD i 0) (by rw [List.getD_eq_getElem?_getD, List.getElem?_eq_getElem hi]; exact List.getElem_mem hi)
      exact this
    have HSI : Hid (∀ j (h : j < (by8 ls).size), (((by8 ls)[j]'h).toNat : Int) = ((ls.getD j 0).toNat : Nat)) := Lib.hid fun j h => by rw [by_index]; rfl
    obtain ⟨N, hN⟩ : ∃ N, N = ls.length := ⟨_, rfl⟩
    have hsz : (by8 ls).size = N := by rw [by8_size, hN]
    have HN := Lib.hid hN
    have hN13 : N ≤ 13 := by omega
    have e0 : (by8 ((some ls).getD [])) = by8 ls := rfl
    rw [e0] at P
    clear hls hlo h6 hrl hln hN e0
    go_enter Tryz.func8, Tryz.ntmps8
    go_upto_region 1 with fail
    refine wp_gen (fun wx => Blk wx w.heap.size tR [.int .i64 k, .slice au nu cu, .slice aq ns cs, .slice an nn cn, .slice ab nb cb] ∧ Below w.heap.size w wx) ⟨Blk.new w tR [.int .i64 k, .slice au nu cu, .slice aq ns cs, .slice an nn cn, .slice ab nb cb], below1 _ _⟩ ?_
    rintro w1 ⟨O1, B1⟩
    have c0 := O1.cell 0 _ rfl
    go_upto_region 6 with (go_at_call 22; refine (P.out _).mono ?_; rintro e w2 ⟨rfl, rfl⟩)
    have HO := Lib.hid (And.intro O1 B1)
    clear O1 B1 c0 P
    have C0 : ∀ p, Ms.cnt p (ls.take 0) = 0 := fun p => rfl
    go_loop [5, 6, 7, 8, 9] (fun v5 v6 v7 v8 v9 => ∃ i : Nat, v5 = .int .i64 (Ms.cnt p117 (ls.take i) : Nat) ∧ v6 = .int .i64 (Ms.cnt Ms.isS (ls.take i) : Nat) ∧ v7 = .int .i64 (Ms.cnt p110 (ls.take i) : Nat) ∧ v8 = .int .i64 (Ms.cnt p98 (ls.take i) : Nat) ∧ v9 = .int .i64 (i : Nat) ∧ i ≤ N) (fun _ _ _ _ v => N - (intOf v).toNat)
    case atStart => exact ⟨0, rfl, rfl, rfl, rfl, rfl, Nat.zero_le _⟩
    case round =>
      obtain ⟨i, rfl, rfl, rfl, rfl, rfl, hi⟩ := hrel
      by_cases hgo : i < N
      · have hk : i < (by8 ls).size := by omega
        have hil : i < ls.length := by rw [← HN.out]; exact hgo
        have hby := HSI.out i hk
        have n1 := Lib.hid (cnt_next p117 ls i hil)
        have n2 := Lib.hid (cnt_next Ms.isS ls i hil)
        have n3 := Lib.hid (cnt_next p110 ls i hil)
        have n4 := Lib.hid (cnt_next p98 ls i hil)
        have h6 := H6.out i hil
        have hil2 : (ls.take i).length ≤ 13 := by rw [List.length_take]; omega
        have d1 := cnt_len p117 (ls.take i)
        have d2 := cnt_len Ms.isS (ls.take i)
        have d3 := cnt_len p110 (ls.take i)
        have d4 := cnt_len p98 (ls.take i)
        generalize Ms.cnt p117 (ls.take i) = x1 at *
        generalize Ms.cnt Ms.isS (ls.take i) = x2 at *
        generalize Ms.cnt p110 (ls.take i) = x3 at *
        generalize Ms.cnt p98 (ls.take i) = x4 at *
        generalize ls.getD i 0 = c at *
        by_cases e1 : c = 117
        · subst e1
          have hby1 : (((by8 ls)[i]'hk).toNat : Int) = 117 := hby
          clear hby h6
          go_wp2_with fail
          go_round
          case rel => exact ⟨i + 1, by rw [n1.out]; go_num, by rw [n2.out]; rfl, by rw [n3.out]; rfl, by rw [n4.out]; rfl, by go_num, by omega⟩
          case measure => simp [intOf]; omega
        by_cases e2 : c = 110
        · subst e2
          have hby1 : (((by8 ls)[i]'hk).toNat : Int) = 110 := hby
          clear hby h6
          go_wp2_with fail
          go_round
          case rel => exact ⟨i + 1, by rw [n1.out]; rfl, by rw [n2.out]; rfl, by rw [n3.out]; go_num, by rw [n4.out]; rfl, by go_num, by omega⟩
          case measure => simp [intOf]; omega
        by_cases e3 : c = 98
        · subst e3
          have hby1 : (((by8 ls)[i]'hk).toNat : Int) = 98 := hby
          clear hby h6
          go_wp2_with fail
          go_round
          case rel => exact ⟨i + 1, by rw [n1.out]; rfl, by rw [n2.out]; rfl, by rw [n3.out]; rfl, by rw [n4.out]; go_num, by go_num, by omega⟩
          case measure => simp [intOf]; omega
        have hS : Ms.isS c = true := by
          unfold Ms.six at h6
          simpa [e1, e2, e3] using h6
        have hS2 : c = 115 ∨ c = 99 ∨ c = 114 := by
          unfold Ms.isS at hS
          simpa [or_assoc] using hS
        clear h6 hS e1 e2 e3
        rcases hS2 with rfl | rfl | rfl
        · have hby1 : (((by8 ls)[i]'hk).toNat : Int) = 115 := hby
          clear hby
          go_wp2_with fail
          go_round
          case rel => exact ⟨i + 1, by rw [n1.out]; rfl, by rw [n2.out]; go_num, by rw [n3.out]; rfl, by rw [n4.out]; rfl, by go_num, by omega⟩
          case measure => simp [intOf]; omega
        · have hby1 : (((by8 ls)[i]'hk).toNat : Int) = 99 := hby
          clear hby
          go_wp2_with fail
          go_round
          case rel => exact ⟨i + 1, by rw [n1.out]; rfl, by rw [n2.out]; go_num, by rw [n3.out]; rfl, by rw [n4.out]; rfl, by go_num, by omega⟩
          case measure => simp [intOf]; omega
        · have hby1 : (((by8 ls)[i]'hk).toNat : Int) = 114 := hby
          clear hby
          go_wp2_with fail
          go_round
          case rel => exact ⟨i + 1, by rw [n1.out]; rfl, by rw [n2.out]; go_num, by rw [n3.out]; rfl, by rw [n4.out]; rfl, by go_num, by omega⟩
          case measure => simp [intOf]; omega
      · obtain rfl : i = N := by omega
        have ht : ls.take i = ls := List.take_of_length_le (by rw [HN.out]; exact Nat.le_refl _)
        rw [ht]
        have hm1 := HO.out.1.cell 1 _ rfl
        have hm2 := HO.out.1.cell 2 _ rfl
        have hm3 := HO.out.1.cell 3 _ rfl
        have hm4 := HO.out.1.cell 4 _ rfl
        have d1 := cnt_len p117 ls
        have d2 := cnt_len Ms.isS ls
        have d3 := cnt_len p110 ls
        have d4 := cnt_len p98 ls
        obtain ⟨y1, hy1⟩ : ∃ y, y = Ms.cnt p117 ls := ⟨_, rfl⟩
        obtain ⟨y2, hy2⟩ : ∃ y, y = Ms.cnt Ms.isS ls := ⟨_, rfl⟩
        obtain ⟨y3, hy3⟩ : ∃ y, y = Ms.cnt p110 ls := ⟨_, rfl⟩
        obtain ⟨y4, hy4⟩ : ∃ y, y = Ms.cnt p98 ls := ⟨_, rfl⟩
        rw [← hy1, ← hy2, ← hy3, ← hy4]
        rw [← hy1] at d1
        rw [← hy2] at d2
        rw [← hy3] at d3
        rw [← hy4] at d4
        have HY := Lib.hid (And.intro hy1 (And.intro hy2 (And.intro hy3 hy4)))
        clear hy1 hy2 hy3 hy4 ht
        go_upto_region 16 with fail
        rcases Nat.decEq y1 nu with q1 | q1
        · have hd : ((y1 : Int) == (nu : Int)) = false := by rw [beq_eq_false_iff_ne]; omega
          clear q1
          go_wp2_with fail
          all_goals (go_ret; exact ⟨⟨1, rfl, fun h => by cases h⟩, HO.out.2⟩)
        subst q1
        rcases Nat.decEq y2 ns with q2 | q2
        · have hd : ((y2 : Int) == (ns : Int)) = false := by rw [beq_eq_false_iff_ne]; omega
          clear q2
          go_wp2_with fail
          all_goals (go_ret; exact ⟨⟨1, rfl, fun h => by cases h⟩, HO.out.2⟩)
        subst q2
        rcases Nat.decEq y3 nn with q3 | q3
        · have hd : ((y3 : Int) == (nn : Int)) = false := by rw [beq_eq_false_iff_ne]; omega
          clear q3
          go_wp2_with fail
          all_goals (go_ret; exact ⟨⟨1, rfl, fun h => by cases h⟩, HO.out.2⟩)
        subst q3
        rcases Nat.decEq y4 nb with q4 | q4
        · have hd : ((y4 : Int) == (nb : Int)) = false := by rw [beq_eq_false_iff_ne]; omega
          clear q4
          go_wp2_with fail
          all_goals (go_ret; exact ⟨⟨1, rfl, fun h => by cases h⟩, HO.out.2⟩)
        subst q4
        go_upto_region 21 with fail
        clear hm1 hm4 d1 d2 d3 d4
        have HS := Lib.hid HH.out.2.s
        go_loop [6, 10, 11] (fun v6 v10 v11 => ∃ j : Nat, v6 = .int .i64 (Ms.cnt Ms.isS (ls.take j) : Nat) ∧ v10 = .bool false ∧ v11 = .int .i64 (j : Nat) ∧ j ≤ i ∧ Hid (∀ q, q < j → ls[q]? = some 99 → (s.getD (Ms.cnt Ms.isS (ls.take q)) []).length = 16)) (fun _ _ v => i - (intOf v).toNat)
        case atStart => exact ⟨0, rfl, rfl, rfl, Nat.zero_le _, Lib.hid (fun q hq => by omega)⟩
        case round =>
          obtain ⟨j, rfl, rfl, rfl, hj, h16⟩ := hrel
          by_cases hgo2 : j < i
          · have hk : j < (by8 ls).size := by omega
            have hjl : j < ls.length := by rw [← HN.out]; exact hgo2
            have hby := HSI.out j hk
            have n2 := Lib.hid (cnt_next Ms.isS ls j hjl)
            have ct := cnt_take Ms.isS ls (j + 1)
            rw [n2.out, ← HY.out.2.1] at ct
            have h6 := H6.out j hjl
            have hgd : Hid (ls[j]? = some (ls.getD j 0)) := Lib.hid (by rw [List.getD_eq_getElem?_getD, List.getElem?_eq_getElem hjl]; rfl)
            have HX : Hid (∀ q, q < j + 1 → ls[q]? = some 99 → (q = j → (s.getD (Ms.cnt Ms.isS (ls.take j)) []).length = 16) → (s.getD (Ms.cnt Ms.isS (ls.take q)) []).length = 16) := Lib.hid fun q hq h99 hqj => by
              by_cases e : q = j
              · subst e; exact hqj rfl
              · exact h16.out q (by omega) h99
            obtain ⟨x2, hx2⟩ : ∃ x, x = Ms.cnt Ms.isS (ls.take j) := ⟨_, rfl⟩
            rw [← hx2] at n2 ct HX ⊢
            clear hx2 hjl
            generalize ls.getD j 0 = c at *
            by_cases e1 : c = 117 ∨ c = 110 ∨ c = 98
            · have HX2 : Hid (∀ q, q < j + 1 → ls[q]? = some 99 → (s.getD (Ms.cnt Ms.isS (ls.take q)) []).length = 16) := Lib.hid fun q hq h99 => HX.out q hq h99 (fun e => by
                subst e
                rw [hgd.out] at h99
                have := Option.some.inj h99
                subst this
                exact absurd e1 (by decide))
              clear h6 ct hgd HX h16
              rcases e1 with rfl | rfl | rfl
              · have hby1 : (((by8 ls)[j]'hk).toNat : Int) = 117 := hby
                clear hby
                go_wp2_with fail
                go_round
                case rel => exact ⟨j + 1, by rw [n2.out]; rfl, rfl, by go_num, by omega, HX2⟩
                case measure => simp [intOf]; omega
              · have hby1 : (((by8 ls)[j]'hk).toNat : Int) = 110 := hby
                clear hby
                go_wp2_with fail
                go_round
                case rel => exact ⟨j + 1, by rw [n2.out]; rfl, rfl, by go_num, by omega, HX2⟩
                case measure => simp [intOf]; omega
              · have hby1 : (((by8 ls)[j]'hk).toNat : Int) = 98 := hby
                clear hby
                go_wp2_with fail
                go_round
                case rel => exact ⟨j + 1, by rw [n2.out]; rfl, rfl, by go_num, by omega, HX2⟩
                case measure => simp [intOf]; omega
            have hS : Ms.isS c = true := by
              unfold Ms.six at h6
              simp only [not_or] at e1
              simpa [e1.1, e1.2.1, e1.2.2] using h6
            rw [hS] at n2 ct
            simp only [if_true] at n2 ct
            obtain ⟨x, hx⟩ : ∃ x, s[x2]? = some x := ⟨_, List.getElem?_eq_getElem (by have := HL.out.2.1; omega)⟩
            have hxl := HH.out.1.s.2 x (List.mem_of_getElem? hx)
            have hxs := by8_size x
            have hsx : (sv s)[x2]? = some (.string (by8 x)) := by unfold sv; rw [List.getElem?_map, hx]; rfl
            obtain ⟨g, off, rfl, hg, -, -, hcw⟩ := HS.out.at hsx
            have hc1 : w1.cell? ⟨g, off + x2, none⟩ = some (.string (by8 x)) := by rw [HO.out.2.cell (p := ⟨g, off + x2, none⟩) hg]; exact hcw
            have hgx : Hid (s.getD x2 [] = x) := Lib.hid (by rw [List.getD_eq_getElem?_getD, hx]; rfl)
            have hS2 : c = 115 ∨ c = 99 ∨ c = 114 := by
              unfold Ms.isS at hS
              simpa [or_assoc] using hS
            clear h6 hS e1 hx hsx hcw h16
            rcases hS2 with rfl | rfl | rfl
            · have hby1 : (((by8 ls)[j]'hk).toNat : Int) = 115 := hby
              have HX2 : Hid (∀ q, q < j + 1 → ls[q]? = some 99 → (s.getD (Ms.cnt Ms.isS (ls.take q)) []).length = 16) := Lib.hid fun q hq h99 => HX.out q hq h99 (fun e => by
                subst e
                rw [hgd.out] at h99
                cases h99)
              clear hby hgd HX
              go_wp2_with fail
              go_round
              case rel => exact ⟨j + 1, by rw [n2.out]; go_num, rfl, by go_num, by omega, HX2⟩
              case measure => simp [intOf]; omega
            · have hby1 : (((by8 ls)[j]'hk).toNat : Int) = 99 := hby
              by_cases hx16 : x.length = 16
              · have HX2 : Hid (∀ q, q < j + 1 → ls[q]? = some 99 → (s.getD (Ms.cnt Ms.isS (ls.take q)) []).length = 16) := Lib.hid fun q hq h99 => HX.out q hq h99 (fun e => by rw [hgx.out]; exact hx16)
                have hxe : (by8 x).size = 16 := by omega
                clear hby hgd HX hxs hx16 hxl
                go_wp2_with fail
                go_round
                case rel => exact ⟨j + 1, by rw [n2.out]; go_num, rfl, by go_num, by omega, HX2⟩
                case measure => simp [intOf]; omega
              · have hd : ((x.length : Int) == 16) = false := by rw [beq_eq_false_iff_ne]; omega
                clear hby hgd HX hx16
                go_wp2_with fail
                go_ret
                exact ⟨⟨1, rfl, fun h => by cases h⟩, HO.out.2⟩
            · have hby1 : (((by8 ls)[j]'hk).toNat : Int) = 114 := hby
              have HX2 : Hid (∀ q, q < j + 1 → ls[q]? = some 99 → (s.getD (Ms.cnt Ms.isS (ls.take q)) []).length = 16) := Lib.hid fun q hq h99 => HX.out q hq h99 (fun e => by
                subst e
                rw [hgd.out] at h99
                cases h99)
              clear hby hgd HX
              go_wp2_with fail
              go_round
              case rel => exact ⟨j + 1, by rw [n2.out]; go_num, rfl, by go_num, by omega, HX2⟩
              case measure => simp [intOf]; omega
          · obtain rfl : j = i := by omega
            have H16 := Lib.hid h16.out
            clear h16
            have NW : NN (fun _ => False) w1 an y3 cn n := HH.out.2.n.keeps (Keeps.of_below (F := fun _ => False) HO.out.2) (fun _ _ e => e.elim)
            obtain ⟨nvs, hnr, hnl, hnx⟩ := NW
            have HNX := Lib.hid (And.intro hnr (And.intro hnl hnx))
            clear hnr hnl hnx HS
            go_upto_region 30 with fail
            go_loopw [10, 126] (fun v10 v126 wx => ∃ q : Nat, v10 = .bool false ∧ v126 = .int .i64 (q : Nat) ∧ q ≤ y3 ∧ Hid (∀ (p : Nat) (l : List S), p < q → n[p]? = some l → ∀ y ∈ l, Ms.name y = true) ∧ Hid (Below w1.heap.size w1 wx)) (fun _ v _ => y3 - (intOf v).toNat)
            case atStart => exact ⟨0, rfl, rfl, Nat.zero_le _, Lib.hid (fun p l hp => by omega), Lib.hid (Below.refl _ _)⟩
            case round =>
              obtain ⟨q, rfl, rfl, hq, hall, hbw⟩ := hrel
              by_cases hgo3 : q < y3
              · obtain ⟨l, hl⟩ : ∃ l, n[q]? = some l := ⟨_, List.getElem?_eq_getElem (by have := HL.out.2.2.1; omega)⟩
                obtain ⟨x, hx⟩ : ∃ x, nvs[q]? = some x := ⟨_, List.getElem?_eq_getElem (by rw [HNX.out.2.1]; have := HL.out.2.2.1; omega)⟩
                obtain ⟨a', k', c', rfl, hrs⟩ := HNX.out.2.2 q x l hx hl
                obtain ⟨g, off, rfl, hg, -, -, hcw⟩ := HNX.out.1.at hx
                have hc1 : wr.cell? ⟨g, off + q, none⟩ = some (.slice a' k' c') := by rw [hbw.out.cell (p := ⟨g, off + q, none⟩) hg]; exact hcw
                have hlim := HH.out.1.n.2 l (List.mem_of_getElem? hl)
                have hlk : l.length = k' := by rw [← Spl.sv_len]; exact hrs.len
                have HRS := Lib.hid (And.intro (hrs.below hbw.out) (And.intro hlk (And.intro hlim hl)))
                have hk6 : k' ≤ 6 := by omega
                clear hx hl hrs hcw hlim hlk hg
                go_upto_region 33 with fail
                go_loop [132] (fun v => ∃ z : Nat, v = .int .i64 (z : Nat) ∧ z ≤ k' ∧ Hid (∀ y ∈ l.take z, Ms.name y = true)) (fun v => k' - (intOf v).toNat)
                case atStart => exact ⟨0, rfl, Nat.zero_le _, Lib.hid (fun y hy => by rw [List.take_zero] at hy; cases hy)⟩
                case round =>
                  obtain ⟨z, rfl, hz, hnm⟩ := hrel
                  by_cases hgo4 : z < k'
                  · obtain ⟨y, hy⟩ : ∃ y, l[z]? = some y := ⟨_, List.getElem?_eq_getElem (by rw [HRS.out.2.1]; exact hgo4)⟩
                    have hsy : (sv l)[z]? = some (.string (by8 y)) := by unfold sv; rw [List.getElem?_map, hy]; rfl
                    obtain ⟨g2, off2, rfl, -, -, -, hc2⟩ := HRS.out.1.at hsy
                    have hyl := HRS.out.2.2.1.2 y (List.mem_of_getElem? hy)
                    have CN := Lib.hid (name_ok y (by omega) wr)
                    have HNX2 : Hid (Ms.name y = true → ∀ v ∈ l.take (z + 1), Ms.name v = true) := Lib.hid fun h v hv => by
                      rw [List.take_add_one, hy] at hv
                      rcases List.mem_append.1 hv with hv | hv
                      · exact hnm.out v hv
                      · have e : v = y := by simpa using hv
                        rw [e]; exact h
                    clear hy hsy hyl
                    cases hnmy : Ms.name y with
                    | true =>
                      rw [hnmy] at CN
                      have HX3 := Lib.hid (HNX2.out hnmy)
                      clear hnmy HNX2
                      go_wp2_with (go_at_call 23; refine CN.out.mono ?_; rintro e w3 ⟨rfl, rfl⟩)
                      go_round
                      case rel => exact ⟨z + 1, by go_num, by omega, HX3⟩
                      case measure => simp [intOf]; omega
                    | false =>
                      rw [hnmy] at CN
                      clear hnmy HNX2
                      go_wp2_with (go_at_call 23; refine CN.out.mono ?_; rintro e w3 ⟨rfl, rfl⟩)
                      go_ret
                      exact ⟨⟨1, rfl, fun h => by cases h⟩, HO.out.2.trans (hbw.out.mono HO.out.2.size)⟩
                  · obtain rfl : z = k' := by omega
                    have CN := Lib.hid (names_ok _ a' z c' l wr HRS.out.1 HRS.out.2.2.1.1 HRS.out.2.2.1.2)
                    have HX : Hid (∀ (p : Nat) (l : List S), p < q + 1 → n[p]? = some l → ∀ y ∈ l, Ms.name y = true) := Lib.hid fun p l2 hp hl2 y hy => by
                      by_cases e : p = q
                      · subst e
                        rw [HRS.out.2.2.2] at hl2
                        obtain rfl := Option.some.inj hl2
                        exact hnm.out y (by rw [List.take_of_length_le (by rw [HRS.out.2.1]; exact Nat.le_refl _)]; exact hy)
                      · exact hall.out p l2 (by omega) hl2 y hy
                    go_wp2_with (go_at_call 24; refine CN.out.mono ?_; rintro e w3 ⟨⟨zz, rfl, hzz⟩, hb3⟩; have hzs := by8_size zz)
                    have HB3 := Lib.hid (hbw.out.trans (hb3.mono hbw.out.size))
                    clear hb3
                    go_roundw
                    case rel => exact ⟨q + 1, rfl, by go_num, by omega, HX, HB3⟩
                    case measure => simp [intOf]; omega
              · obtain rfl : q = y3 := by omega
                have FIN : RPost k u s n b w (.returned (.int .i64 0)) wr := ⟨⟨0, rfl, fun _ => ⟨ls, HLS.out.1, Ms.fits_of ls u s n b HLS.out.2.1 HLS.out.2.2 (by rw [HL.out.1]; exact HY.out.1) (by rw [HL.out.2.1]; exact HY.out.2.1) (by rw [HL.out.2.2.1]; exact HY.out.2.2.1) (by rw [HL.out.2.2.2]; exact HY.out.2.2.2) (fun i' hi' => H16.out i' (by rw [HN.out]; exact (List.getElem?_eq_some_iff.1 hi').1) hi') (fun l hl y hy => by
                  obtain ⟨p, hp⟩ := List.mem_iff_getElem?.1 hl
                  have := (List.getElem?_eq_some_iff.1 hp).1
                  exact hall.out p l (by have := HL.out.2.2.1; omega) hp y hy)⟩⟩, HO.out.2.trans (hbw.out.mono HO.out.2.size)⟩
                have FF := Lib.hid FIN
                clear FIN
                go_wp2_with fail
                go_ret
                exact FF.out
end Rf
end Go.Proofs.YtcbkbjpdfanjpaaGreatDoor
