/-
The document's Split.
-/
import Derived.Test.YtkhdhiddhnmdkaaGreatDoorPk42
namespace Go.Proofs.YtkhdhiddhnmdkaaGreatDoor
open Go.RowKit Tm
set_option maxRecDepth 100000
namespace Tv
/-- a list of texts, made since wc -/
structure SL (wc w : World) (v : Value) (l : List S) : Prop where
  sg : Sg w 1 v l.length (sv l)
  fr : ∀ q, vblk v = some q → wc.heap.size ≤ q
  be : Below wc.heap.size wc w
theorem SL.nil (w : World) : SL w w (.slice none 0 0) [] := ⟨Sg.nil w 1, fun q h => by simp [vblk] at h, Below.refl _ _⟩
theorem SL.empty (w : World) (o : Obj) (b : Nat) : SL w (w.alloc o) (.slice (some ⟨b, 0, none⟩) 0 0) [] := ⟨⟨rfl, _, 0, rfl, Nat.le_refl _, Nat.zero_le _, .inl rfl⟩, fun q h => by simp [vblk] at h, below1 w o⟩
theorem SL.below {wc w w' : World} {v : Value} {l : List S} (h : SL wc w v l) (hb : Below w.heap.size w w') : SL wc w' v l := ⟨h.sg.below hb, h.fr, h.be.trans (hb.mono h.be.size)⟩
theorem SL.base {wa wc w : World} {v : Value} {l : List S} (h : SL wc w v l) (hb : Below wa.heap.size wa wc) : SL wa w v l := ⟨h.sg, fun q hq => Nat.le_trans hb.size (h.fr q hq), hb.trans (h.be.mono hb.size)⟩
theorem lit_str (w : World) (x : S) : Sg (w.alloc (.cells #[.string (by8 x)] 9)) 1 (.slice (some ⟨w.heap.size, 0, none⟩) 1 1) 1 (sv [x]) := by
  have h : Blk (w.alloc (.cells #[.string (by8 x)] 9)) w.heap.size 9 [.string (by8 x)] := Blk.new w _ [.string (by8 x)]
  refine ⟨rfl, _, 1, rfl, Nat.le_refl _, by unfold maxLen; omega, .inr ⟨_, 0, rfl, h.lt, fun j hj => ?_, fun j hj => ?_⟩⟩
  · obtain rfl : j = 0 := by omega
    exact ⟨by rw [h.cell 0 _ rfl]; rfl, h.free 0⟩
  · obtain rfl : j = 0 := by omega
    exact h.cell 0 _ rfl
theorem sv_app (a b : List S) : sv (a ++ b) = sv a ++ sv b := by simp [sv]
theorem SL.app {wc w w8 : World} {v v8 : Value} {l : List S} {x : S} (h : SL wc w v l) (hs : Sg w8 1 v8 (l.length + 1) (sv l ++ sv [x])) (hv : ∀ g, vblk v8 = some g → vblk v = some g ∨ w.heap.size + 1 ≤ g)
    (hk : Keeps (fun k => vblk v = some k) (w.alloc (.cells #[.string (by8 x)] 9)) w8) : SL wc w8 v8 (l ++ [x]) := by
  have h1 := h.be.alloc h.be.size (.cells #[.string (by8 x)] 9)
  refine ⟨by rw [← sv_app] at hs; simpa using hs, fun q hq => ?_, h1.trans (hk.below h1.size (fun k hk e => by have := h.fr k e; omega))⟩
  rcases hv q hq with e | e
  · exact h.fr q e
  · have := h.be.size; omega
def mid (s : S) (a b : Nat) : S := (s.drop a).take (b - a)
theorem mid_ext (s : S) (a b : Nat) : (by8 s).extract a b = by8 (mid s a b) := by8_mid s a b
theorem mid_cons {s : S} {i n : Nat} {c : UInt8} (hc : s[i]? = some c) (h : i < n) : mid s i n = c :: mid s (i + 1) n := by
  unfold mid
  have hi : i < s.length := (List.getElem?_eq_some_iff.1 hc).1
  rw [List.drop_eq_getElem_cons hi, show n - i = (n - (i + 1)) + 1 by omega, List.take_succ_cons]
  rw [List.getElem?_eq_getElem hi] at hc
  rw [Option.some.inj hc]
theorem mid_snoc {s : S} {b i : Nat} {c : UInt8} (hc : s[i]? = some c) (h : b ≤ i) : mid s b (i + 1) = mid s b i ++ [c] := by
  unfold mid
  rw [show i + 1 - b = (i - b) + 1 by omega, List.take_add_one, List.getElem?_drop, show b + (i - b) = i by omega, hc]
  rfl
theorem mid_nil (s : S) (i : Nat) : mid s i i = [] := by unfold mid; rw [Nat.sub_self, List.take_zero]
theorem mid_len (s : S) (a b : Nat) (h : b ≤ s.length) : (mid s a b).length = b - a := by unfold mid; rw [List.length_take, List.length_drop]; omega
theorem sp_other {c : UInt8} {d : Int} (h1 : c ≠ 40) (h2 : c ≠ 41) (h3 : c ≠ 44) (cur r : S) : sp d cur (c :: r) = sp d (cur ++ [c]) r := by
  have e : sp d cur (c :: r) = if c = 40 then sp (d + 1) (cur ++ [c]) r else if c = 41 then sp (d - 1) (cur ++ [c]) r else if c = 44 ∧ d = 0 then cur :: sp d [] r else sp d (cur ++ [c]) r := rfl
  rw [e, if_neg h1, if_neg h2, if_neg (fun h => h3 h.1)]
/-- the first bracket -/
theorem tw40 {l : S} {n : Nat} (h : ∀ c ∈ l.take n, (c != 40) = true) (hs : n = l.length ∨ l[n]? = some 40) : l.takeWhile (· != 40) = l.take n ∧ l.dropWhile (· != 40) = l.drop n := by
  have e := List.take_append_drop n l
  rcases hs with hn | hc
  · rw [hn, List.drop_length, List.take_length]
    rw [hn, List.take_length] at h
    exact ⟨by
      have : ∀ l : S, (∀ c ∈ l, (c != 40) = true) → l.takeWhile (· != 40) = l := by
        intro l hl
        induction l with
        | nil => rfl
        | cons x t ih => rw [List.takeWhile_cons_of_pos (p := fun c : UInt8 => c != 40) (hl x (List.mem_cons_self ..)), ih fun c hc => hl c (List.mem_cons_of_mem _ hc)]
      exact this l h, drop40 h⟩
  · have hn : n < l.length := (List.getElem?_eq_some_iff.1 hc).1
    have hd : l.drop n = 40 :: l.drop (n + 1) := by
      rw [List.drop_eq_getElem_cons hn]
      rw [List.getElem?_eq_getElem hn] at hc
      rw [Option.some.inj hc]
    have k := take40 (w := l.take n) (r := l.drop (n + 1)) h
    rw [← hd, e] at k
    exact k
theorem split_at {l : S} {n : Nat} (h : ∀ c ∈ l.take n, (c != 40) = true) (hc : l[n]? = some 40) : split l = (l.take n, if l.drop (n + 1) = [] then [[]] else sp 0 [] (l.drop (n + 1)).dropLast) := by
  have hn : n < l.length := (List.getElem?_eq_some_iff.1 hc).1
  obtain ⟨e1, e2⟩ := tw40 h (.inr hc)
  have hd : l.drop n = 40 :: l.drop (n + 1) := by
    rw [List.drop_eq_getElem_cons hn]
    rw [List.getElem?_eq_getElem hn] at hc
    rw [Option.some.inj hc]
  unfold split
  rw [e2, hd]
  show (l.takeWhile (· != 40), _) = _
  rw [e1]
theorem split_none {l : S} (h : ∀ c ∈ l.take l.length, (c != 40) = true) : split l = (kAtom, []) := by
  unfold split
  rw [(tw40 h (.inl rfl)).2, List.drop_length]
theorem drop_last (l : S) (n : Nat) : (l.drop n).dropLast = mid l n (l.length - 1) := by
  unfold mid
  rw [List.dropLast_eq_take, List.length_drop]
  congr 1
  omega
set_option maxHeartbeats 8000000 in
theorem split_ok (s : S) (hs : s.length ≤ 1000) (w : World) :
    Calls Tryz.prog 10 #[.string (by8 s)] w fun e w' => ∃ v, e = .returned (.tuple #[.string (by8 (split s).1), v]) ∧ SL w w' v (split s).2 := by
  have hsz : (by8 s).size = s.length := by8_size s
  obtain ⟨i0, hi, hz0, hz1, hz2⟩ := info_parts strInfo
  have I := Lib.hid hi
  have I0 := Lib.hid hz0
  have I1 := Lib.hid hz1
  have I2 := Lib.hid hz2
  clear hi hz0 hz1 hz2
  obtain ⟨b, hb⟩ : ∃ b, b = by8 s := ⟨_, rfl⟩
  have HB := Lib.hid hb
  rw [← hb] at hsz ⊢
  have hbl : Hid (b.data.toList = s) := by show _ = _; rw [hb, by8_l]
  clear hb
  go_enter Tryz.func10, Tryz.ntmps10
  go_wp2_with fail
  go_loop [4] (fun v => ∃ i : Nat, v = .int .i64 i ∧ i ≤ b.size ∧ Hid (∀ c ∈ s.take i, (c != 40) = true)) (fun v => 200000 - (intOf v).toNat)
  case atStart => exact ⟨0, rfl, by omega, Lib.hid (by intro c h; cases h)⟩
  case round =>
    obtain ⟨i, rfl, hi, ha⟩ := hrel
    rcases Nat.lt_or_ge i b.size with h | h
    · have GL : Hid (s[i]? = some (b[i]'h)) := by show _ = _; rw [← hbl.out]; exact get_l b i h
      by_cases c1 : (b[i]'h).toNat = 40
      · have hc40 : Hid (s[i]? = some 40) := by
          show _ = _
          rw [GL.out]
          congr 1
          exact UInt8.toNat_inj.1 c1
        have HSP := Lib.hid (split_at ha.out hc40.out)
        have d1 : ((((b[i]'h).toNat : Nat) : Int) != 40) = false := by rw [bne_eq_false_iff_eq]; omega
        have hne : ¬ ((i : Int) = (b.size : Int)) := by omega
        have d2 : ((i : Int) == (b.size : Int)) = false := beq_eq_false_iff_ne.2 hne
        clear GL ha c1
        go_upto_region 10 with fail
        have EX : Hid (b.extract 0 i = by8 (s.take i)) := by show _ = _; rw [HB.out, by8_take]
        have E0 : SL w (w.alloc (.cells #[] 9)) (.slice (some ⟨w.heap.size, 0, none⟩) 0 0) [] := SL.empty w _ _
        by_cases hm : i + 1 = s.length
        · have HD : Hid (split s = (s.take i, [[]])) := by show _ = _; rw [HSP.out, if_pos (List.drop_eq_nil_of_le (by omega))]
          have WX : ∃ wx, wx = w.alloc (.cells #[] 9) := ⟨_, rfl⟩
          obtain ⟨wx, hwx⟩ := WX
          rw [← hwx] at E0 ⊢
          clear hwx HSP
          go_loopw [5, 6, 7, 8] (fun v5 v6 v7 v8 wr => v5 = .slice (some ⟨w.heap.size, 0, none⟩) 0 0 ∧ v6 = .int .i64 0 ∧ v7 = .int .i64 ((i : Int) + 1) ∧ v8 = .int .i64 ((i : Int) + 1) ∧ wr = wx) (fun _ _ _ _ _ => 0)
          case atStart => exact ⟨rfl, rfl, rfl, rfl, rfl⟩
          case round =>
            obtain ⟨rfl, rfl, rfl, rfl, rfl⟩ := hrel
            have hu := lit_str wr []
            have hsv := (E0.below (below1 wr (.cells #[.string (by8 [])] 9))).sg
            have m1 : ([] : List S).length + 1 ≤ maxLen := by unfold maxLen; simp
            have m2 : (([] : List S).length + 1) * 16 ≤ 140737488355328 := by simp
            have OSV := sv_one [[]]
            have c9 : ((i : Int) + 1 + 1 < (s.length : Int)) = False := eq_false (by omega)
            have c8 : ((i : Int) + 1 < (s.length : Int)) = False := eq_false (by omega)
            go_wp2_with (at_builtin; refine wpList_append_any _ rfl (.tmp 74) (.tmp 75) 34 rfl 9 i0 (.string ⟨#[]⟩) 1 16 Tryz.underlying34 I.out I0.out I1.out I2.out rfl (by decide) _ ([] : List S).length _ rfl hsv _ 1 (sv [[]]) rfl hu OSV m1 m2 ?grow)
            case grow =>
              intro v' w6 hs6 hv6 hk6
              have R6 := Lib.hid (E0.app (x := []) hs6 hv6 hk6)
              clear hs6 hv6 hk6
              go_wp2_with fail
              go_ret2
              rw [HD.out]
              exact ⟨v', (by show Ending.returned (.tuple #[.string (b.extract 0 i), v']) = _; rw [EX.out]), R6.out⟩
        · have hN : i + 1 ≤ s.length - 1 := by omega
          have HD : Hid (split s = (s.take i, sp 0 [] (mid s (i + 1) (s.length - 1)))) := by
            show _ = _
            rw [HSP.out, if_neg (by
              intro e
              have := congrArg List.length e
              rw [List.length_drop, List.length_nil] at this
              omega), drop_last]
          obtain ⟨wx, hwx⟩ : ∃ wx, wx = w.alloc (.cells #[] 9) := ⟨_, rfl⟩
          rw [← hwx] at E0 ⊢
          clear hwx HSP
          obtain ⟨N, hNN⟩ : ∃ N, N = s.length - 1 := ⟨_, rfl⟩
          rw [← hNN] at HD hN
          have hNa : N + 1 ≤ s.length := by omega
          have hNb : s.length ≤ N + 1 := by omega
          obtain ⟨SP, hSP⟩ : ∃ SP, sp 0 [] (mid s (i + 1) N) = SP := ⟨_, rfl⟩
          rw [hSP] at HD
          have HSP := Lib.hid hSP
          clear hSP hNN
          go_loopw [5, 6, 7, 8] (fun v5 v6 v7 v8 wr => ∃ (j bg : Nat) (d : Int) (out : List S), v8 = .int .i64 (j : Int) ∧ v7 = .int .i64 (bg : Int) ∧ v6 = .int .i64 d ∧ i + 1 ≤ bg ∧ bg ≤ j ∧ j ≤ N ∧ -(j : Int) ≤ d ∧ d ≤ j ∧ SL w wr v5 out ∧ Hid (out ++ sp d (mid s bg j) (mid s j N) = SP) ∧ out.length ≤ j) (fun _ _ _ v8 _ => N - (intOf v8).toNat)
          case atStart => exact ⟨i + 1, i + 1, 0, [], by go_num, by go_num, rfl, by omega, by omega, by omega, by omega, by omega, E0, by show _ = _; rw [mid_nil, List.nil_append]; exact HSP.out, by simp⟩
          case round =>
            obtain ⟨j, bg, d, out, rfl, rfl, rfl, h1, h2, h3, h4, h5, hSL, hsp, hol⟩ := hrel
            by_cases hgo : j < N
            · have hjb : j < b.size := by omega
              have GL : Hid (s[j]? = some (b[j]'hjb)) := by show _ = _; rw [← hbl.out]; exact get_l b j hjb
              have MC := Lib.hid (mid_cons (n := N) GL.out hgo)
              have MS := Lib.hid (mid_snoc (b := bg) GL.out h2)
              have hx := (b[j]'hjb).toNat_lt
              by_cases q0 : (b[j]'hjb).toNat = 40
              · have q := q0
                clear q0
                have HS2 : Hid (out ++ sp (d + 1) (mid s bg (j + 1)) (mid s (j + 1) N) = SP) := by
                  show _ = _
                  rw [MS.out, ← hsp.out, MC.out, show b[j]'hjb = 40 from UInt8.toNat_inj.1 q, sp_open]
                have e40 : ((((b[j]'hjb).toNat : Nat) : Int) == 40) = true := by rw [beq_iff_eq]; omega
                clear q
                go_wp2_with fail
                go_roundw
                case rel => exact ⟨j + 1, bg, d + 1, out, by go_num, rfl, rfl, h1, by omega, by omega, by omega, by omega, hSL, HS2, by omega⟩
                case measure => simp [intOf]; omega
              · by_cases q1 : (b[j]'hjb).toNat = 41
                · have q := q1
                  clear q1
                  have HS2 : Hid (out ++ sp (d - 1) (mid s bg (j + 1)) (mid s (j + 1) N) = SP) := by
                    show _ = _
                    rw [MS.out, ← hsp.out, MC.out, show b[j]'hjb = 41 from UInt8.toNat_inj.1 q, sp_shut]
                  have e40 : ((((b[j]'hjb).toNat : Nat) : Int) == 40) = false := by rw [beq_eq_false_iff_ne]; omega
                  have e41 : ((((b[j]'hjb).toNat : Nat) : Int) == 41) = true := by rw [beq_iff_eq]; omega
                  clear q
                  go_wp2_with fail
                  go_roundw
                  case rel => exact ⟨j + 1, bg, d - 1, out, by go_num, rfl, rfl, h1, by omega, by omega, by omega, by omega, hSL, HS2, by omega⟩
                  case measure => simp [intOf]; omega
                · by_cases q : (b[j]'hjb).toNat = 44
                  · by_cases hd0 : d = 0
                    · subst hd0
                      have HS2 : Hid ((out ++ [mid s bg j]) ++ sp 0 (mid s (j + 1) (j + 1)) (mid s (j + 1) N) = SP) := by
                        show _ = _
                        rw [← hsp.out, MC.out, show b[j]'hjb = 44 from UInt8.toNat_inj.1 q, sp_comma, mid_nil, List.append_assoc]
                        rfl
                      have e40 : ((((b[j]'hjb).toNat : Nat) : Int) == 40) = false := by rw [beq_eq_false_iff_ne]; omega
                      have e41 : ((((b[j]'hjb).toNat : Nat) : Int) == 41) = false := by rw [beq_eq_false_iff_ne]; omega
                      have e44 : ((((b[j]'hjb).toNat : Nat) : Int) == 44) = true := by rw [beq_iff_eq]; omega
                      have EXJ : Hid (b.extract bg j = by8 (mid s bg j)) := by show _ = _; rw [HB.out, mid_ext]
                      have EXV : b.extract bg j = by8 (mid s bg j) := EXJ.out
                      have hu := lit_str wr (mid s bg j)
                      have hsv := (hSL.below (below1 wr (.cells #[.string (by8 (mid s bg j))] 9))).sg
                      have m1 : out.length + 1 ≤ maxLen := by unfold maxLen; omega
                      have m2 : (out.length + 1) * 16 ≤ 140737488355328 := by omega
                      have OSV := sv_one [mid s bg j]
                      have HSL := Lib.hid hSL
                      clear q q0 q1 hSL
                      go_wp2_with (at_builtin; (try rw [EXV]); refine wpList_append_any _ rfl (.tmp 52) (.tmp 57) 34 rfl 9 i0 (.string ⟨#[]⟩) 1 16 Tryz.underlying34 I.out I0.out I1.out I2.out rfl (by decide) _ out.length _ rfl hsv _ 1 (sv [mid s bg j]) rfl hu OSV m1 m2 ?grow)
                      case grow =>
                        intro v' w6 hs6 hv6 hk6
                        have R6 := Lib.hid (HSL.out.app (x := mid s bg j) hs6 hv6 hk6)
                        clear hs6 hv6 hk6
                        go_wp2_with fail
                        go_roundw
                        case rel => exact ⟨j + 1, j + 1, 0, out ++ [mid s bg j], by go_num, by go_num, rfl, by omega, by omega, by omega, by omega, by omega, R6.out, HS2, by simp; omega⟩
                        case measure => simp [intOf]; omega
                    · have HS2 : Hid (out ++ sp d (mid s bg (j + 1)) (mid s (j + 1) N) = SP) := by
                        show _ = _
                        rw [MS.out, ← hsp.out, MC.out, show b[j]'hjb = 44 from UInt8.toNat_inj.1 q, sp_inner d hd0]
                      have ed : (d == 0) = false := beq_eq_false_iff_ne.2 hd0
                      have e40 : ((((b[j]'hjb).toNat : Nat) : Int) == 40) = false := by rw [beq_eq_false_iff_ne]; omega
                      have e41 : ((((b[j]'hjb).toNat : Nat) : Int) == 41) = false := by rw [beq_eq_false_iff_ne]; omega
                      have e44 : ((((b[j]'hjb).toNat : Nat) : Int) == 44) = true := by rw [beq_iff_eq]; omega
                      clear q q0 q1 hd0
                      go_wp2_with fail
                      go_roundw
                      case rel => exact ⟨j + 1, bg, d, out, by go_num, rfl, rfl, h1, by omega, by omega, by omega, by omega, hSL, HS2, by omega⟩
                      case measure => simp [intOf]; omega
                  · have HS2 : Hid (out ++ sp d (mid s bg (j + 1)) (mid s (j + 1) N) = SP) := by
                      show _ = _
                      rw [MS.out, ← hsp.out, MC.out, sp_other (fun e => q0 (by rw [e]; rfl)) (fun e => q1 (by rw [e]; rfl)) (fun e => q (by rw [e]; rfl))]
                    have e40 : ((((b[j]'hjb).toNat : Nat) : Int) == 40) = false := by rw [beq_eq_false_iff_ne]; omega
                    have e41 : ((((b[j]'hjb).toNat : Nat) : Int) == 41) = false := by rw [beq_eq_false_iff_ne]; omega
                    have e44 : ((((b[j]'hjb).toNat : Nat) : Int) == 44) = false := by rw [beq_eq_false_iff_ne]; omega
                    clear q q0 q1
                    go_wp2_with fail
                    go_roundw
                    case rel => exact ⟨j + 1, bg, d, out, by go_num, rfl, rfl, h1, by omega, by omega, by omega, by omega, hSL, HS2, by omega⟩
                    case measure => simp [intOf]; omega
            · obtain rfl : j = N := by omega
              have HF : Hid (out ++ [mid s bg j] = SP) := by
                show _ = _
                rw [← hsp.out, mid_nil]
                rfl
              have EXJ : Hid (b.extract bg j = by8 (mid s bg j)) := by show _ = _; rw [HB.out, mid_ext]
              have EXV : b.extract bg j = by8 (mid s bg j) := EXJ.out
              have hu := lit_str wr (mid s bg j)
              have hsv := (hSL.below (below1 wr (.cells #[.string (by8 (mid s bg j))] 9))).sg
              have m1 : out.length + 1 ≤ maxLen := by unfold maxLen; omega
              have m2 : (out.length + 1) * 16 ≤ 140737488355328 := by omega
              have OSV := sv_one [mid s bg j]
              have HSL := Lib.hid hSL
              have hjn : ((s.length : Int) - 1) = (j : Int) := by omega
              clear hSL
              go_upto_region 22 with fail
              go_wp2_with (at_builtin; (try rw [EXV]); refine wpList_append_any _ rfl (.tmp 65) (.tmp 72) 34 rfl 9 i0 (.string ⟨#[]⟩) 1 16 Tryz.underlying34 I.out I0.out I1.out I2.out rfl (by decide) _ out.length _ rfl hsv _ 1 (sv [mid s bg j]) rfl hu OSV m1 m2 ?grow)
              case grow =>
                intro v' w6 hs6 hv6 hk6
                have R6 := Lib.hid (HSL.out.app (x := mid s bg j) hs6 hv6 hk6)
                clear hs6 hv6 hk6
                go_wp2_with fail
                go_ret2
                rw [HD.out, ← HF.out]
                exact ⟨v', (by show Ending.returned (.tuple #[.string (b.extract 0 i), v']) = _; rw [EX.out]), R6.out⟩
      · have HA : Hid (∀ c ∈ s.take (i + 1), (c != 40) = true) := by
          intro c hc
          rw [List.take_add_one, GL.out] at hc
          rcases List.mem_append.1 hc with hm | hm
          · exact ha.out c hm
          · have : c = b[i]'h := by simpa using hm
            rw [this, bne_iff_ne]
            exact fun e => c1 (by rw [e]; rfl)
        have d1 : ((((b[i]'h).toNat : Nat) : Int) != 40) = true := by rw [bne_iff_ne]; omega
        clear c1 GL
        go_wp2_with fail
        go_round
        case rel => exact ⟨i + 1, by go_num, by omega, HA⟩
        case measure => simp [intOf]; omega
    · obtain rfl : i = b.size := by omega
      have HSP : Hid (split s = (kAtom, [])) := by
        have h1 := ha.out
        rw [hsz] at h1
        exact split_none h1
      clear ha
      go_wp2_with fail
      go_ret2
      rw [HSP.out]
      exact ⟨_, rfl, SL.nil w⟩
end Tv
end Go.Proofs.YtkhdhiddhnmdkaaGreatDoor
