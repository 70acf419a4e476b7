/-
The document's Name, Num, Text, Names.
The document's Fields.
The document's Text, Names; Check of short fields.
-/
import Derived.Shelf.RegionOpenPlain
import Derived.Test.YtcbkbjpdfanjpaaGreatDoorPk36
import Derived.Test.YtcbkbjpdfanjpaaGreatDoorPk18
import Derived.Test.YtcbkbjpdfanjpaaGreatDoorPk07
import Derived.Test.YtcbkbjpdfanjpaaGreatDoorPk25
namespace Go.Proofs.YtcbkbjpdfanjpaaGreatDoor
open Go.RowKit
set_option maxRecDepth 100000
namespace Rf
open Spl (sv)
abbrev S := List UInt8
def okY (y : Nat) : Bool := decide (33 ≤ y) && decide (y ≤ 126) && decide (y ≠ 44)
theorem name_bad {x : S} {i : Nat} (hi : i < x.length) (h : okY (x.getD i 0).toNat = false) : Ms.name x = false := by
  have hm : x.getD i 0 ∈ x := by rw [List.getD_eq_getElem?_getD, List.getElem?_eq_getElem hi]; exact List.getElem_mem hi
  unfold Ms.name
  have : x.all Ms.okN = false := by
    rw [List.all_eq_false]
    refine ⟨_, hm, ?_⟩
    intro hk
    have : okY (x.getD i 0).toNat = true := by
      unfold okY
      unfold Ms.okN at hk
      simp only [Bool.and_eq_true, decide_eq_true_eq] at hk ⊢
      exact ⟨hk.1, fun e => hk.2 (UInt8.toNat_inj.1 e)⟩
    rw [h] at this
    cases this
  rw [this, Bool.and_false]
theorem name_good {x : S} (h : ∀ i, i < x.length → okY (x.getD i 0).toNat = true) : Ms.name x = (decide (0 < x.length) && decide (x.length < 65)) := by
  have ha : x.all Ms.okN = true := by
    rw [List.all_eq_true]
    intro c hc
    obtain ⟨i, hi⟩ := List.mem_iff_getElem?.1 hc
    have hil := (List.getElem?_eq_some_iff.1 hi).1
    have := h i hil
    rw [List.getD_eq_getElem?_getD, hi] at this
    unfold okY at this
    unfold Ms.okN
    simp only [Bool.and_eq_true, decide_eq_true_eq, Option.getD_some] at this ⊢
    exact ⟨this.1, fun e => this.2 (by rw [e]; rfl)⟩
  unfold Ms.name
  rw [ha, Bool.and_true]
  congr 1
  · cases x <;> simp
  · simp
    omega
set_option maxHeartbeats 4000000 in
theorem name_ok (x : S) (hl : x.length ≤ 10000) (w : World) : Calls Tryz.prog 23 #[.string (by8 x)] w fun e w' => e = .returned (.bool (Ms.name x)) ∧ w = w' := by
  obtain ⟨n, hn⟩ : ∃ n, n = x.length := ⟨_, rfl⟩
  have hsz : (by8 x).size = n := by rw [by8_size, hn]
  have HSI : Hid (∀ j (h : j < (by8 x).size), (((by8 x)[j]'h).toNat : Int) = ((x.getD j 0).toNat : Nat)) := Lib.hid fun j h => by rw [by_index]; rfl
  have HN := Lib.hid hn
  have hn1 : n ≤ 10000 := by omega
  obtain ⟨R, hR⟩ : ∃ R, R = Ms.name x := ⟨_, rfl⟩
  have HR := Lib.hid hR
  rw [← hR]
  clear hn hl hR
  go_enter Tryz.func23, Tryz.ntmps23
  go_upto_region 2 with fail
  go_loop [3] (fun v => ∃ i : Nat, v = .int .i64 i ∧ i ≤ n ∧ Hid (∀ j, j < i → okY (x.getD j 0).toNat = true)) (fun v => n - (intOf v).toNat)
  case atStart => exact ⟨0, rfl, Nat.zero_le _, Lib.hid (fun j h => by omega)⟩
  case round =>
    obtain ⟨i, rfl, hi, hok⟩ := hrel
    by_cases hgo : i < n
    · have hk : i < (by8 x).size := by omega
      have hby := HSI.out i hk
      have BAD : Hid (okY (x.getD i 0).toNat = false → R = false) := Lib.hid fun h => by rw [HR.out]; exact name_bad (by rw [← HN.out]; exact hgo) h
      have NEXT : Hid (okY (x.getD i 0).toNat = true → ∀ j, j < i + 1 → okY (x.getD j 0).toNat = true) := Lib.hid fun h j hj => by
        by_cases e : j = i
        · subst e; exact h
        · exact hok.out j (by omega)
      generalize (x.getD i 0).toNat = y at *
      by_cases h33 : y < 33
      · have hb : R = false := BAD.out (by unfold okY; simp; omega)
        subst hb
        go_wp2_with fail
        go_ret
        exact ⟨rfl, rfl⟩
      by_cases h126 : 126 < y
      · have hb : R = false := BAD.out (by unfold okY; simp; omega)
        subst hb
        go_wp2_with fail
        go_ret
        exact ⟨rfl, rfl⟩
      by_cases h44 : y = 44
      · have hb : R = false := BAD.out (by unfold okY; simp; omega)
        subst hb
        subst h44
        go_wp2_with fail
        go_ret
        exact ⟨rfl, rfl⟩
      have q3' : ((y : Int) == 44) = false := by rw [beq_eq_false_iff_ne]; omega
      have HX := Lib.hid (NEXT.out (by unfold okY; simp; omega))
      clear BAD NEXT h44
      go_wp2_with fail
      go_round
      case rel => exact ⟨i + 1, by go_num, by omega, HX⟩
      case measure => simp [intOf]; omega
    · obtain rfl : i = n := by omega
      have hR : R = (decide (0 < i) && decide (i < 65)) := by
        have h := name_good (x := x) (fun j hj => hok.out j (by rw [HN.out]; exact hj))
        rw [← HN.out] at h
        rw [HR.out, h]
      by_cases h0 : 0 < i
      · by_cases h65 : i < 65
        · have hR2 : R = true := by rw [hR]; simp [h0, h65]
          subst hR2
          clear hR
          have e1 : ((0 : Int) < (i : Int)) = True := eq_true (by omega)
          have e2 : ((i : Int) < 65) = True := eq_true (by omega)
          go_wp2_with fail
          go_ret
          exact ⟨rfl, rfl⟩
        · have hR2 : R = false := by rw [hR]; simp [h65]
          subst hR2
          clear hR
          have e1 : ((0 : Int) < (i : Int)) = True := eq_true (by omega)
          have e2 : ((i : Int) < 65) = False := eq_false (by omega)
          go_wp2_with fail
          go_ret
          exact ⟨rfl, rfl⟩
      · obtain rfl : i = 0 := by omega
        have hR2 : R = false := by rw [hR]; rfl
        subst hR2
        clear hR
        go_wp2_with fail
        go_ret
        exact ⟨rfl, rfl⟩
theorem infY : (Tryz.prog.info? 5).map (fun i => (i.zero, i.size, i.bytes)) = some (some (.int .u8 0), 1, 1) := by kernel_rfl
set_option maxHeartbeats 8000000 in
theorem num_ok (N : Nat) (hN : N < 4294967296) (w : World) : Calls Tryz.prog 84 #[.int .u64 (N : Nat), .int .i64 4] w fun e w' => (∃ l : S, e = .returned (.string (by8 l)) ∧ l.length = 4) ∧ Below w.heap.size w w' := by
  obtain ⟨ix, jb1, jb2, jb3, jb4⟩ := Mg.iparts infY
  have J := Lib.hid (And.intro jb1 (And.intro jb2 (And.intro jb3 jb4)))
  clear jb1 jb2 jb3 jb4
  go_enter Tryz.func84, Tryz.ntmps84
  go_upto_region 3 with fail
  have H0 : Hid (Sg (w.alloc (.cells #[] 5)) 1 (.slice (some ⟨w.heap.size, 0, none⟩) 0 0) 0 (byv []) ∧ Below w.heap.size w (w.alloc (.cells #[] 5))) := Lib.hid ⟨⟨rfl, _, 0, rfl, Nat.le_refl _, Nat.zero_le _, .inl rfl⟩, below1 _ _⟩
  generalize w.alloc _ = w1 at *
  go_loopw [0, 5, 6] (fun v0 v5 v6 wx => ∃ (i N' : Nat) (l : S), v0 = .int .u64 (N' : Nat) ∧ v6 = .int .i64 (i : Nat) ∧ i ≤ 4 ∧ N' < 4294967296 ∧ Hid (Sg wx 1 v5 i (byv l) ∧ l.length = i ∧ Below w.heap.size w wx)) (fun _ _ v _ => 4 - (intOf v).toNat)
  case atStart => exact ⟨0, N, [], rfl, rfl, by omega, hN, Lib.hid ⟨H0.out.1, rfl, H0.out.2⟩⟩
  case round =>
    obtain ⟨i, N', l, rfl, rfl, hi, hN', hr⟩ := hrel
    clear H0
    obtain ⟨hsg, hll, hbw⟩ := hr.out
    obtain ⟨ao, cp, rfl⟩ : ∃ ao cp, u5 = .slice ao i cp := let ⟨_, ao, cp, h, _⟩ := hsg; ⟨ao, cp, h⟩
    by_cases hgo : i < 4
    · obtain ⟨r, hrr⟩ : ∃ r, r = N' % 256 := ⟨_, rfl⟩
      have e1 : (N' : Int).tmod 256 = (r : Nat) := by rw [Int.tmod_eq_emod_of_nonneg (Int.natCast_nonneg _)]; omega
      have e1' : (N' : Int) % 256 = (r : Nat) := by omega
      have e2 : (N' : Int).tdiv 256 = ((N' / 256 : Nat) : Int) := by rw [Int.tdiv_eq_ediv_of_nonneg (Int.natCast_nonneg _)]; omega
      have e2' : (N' : Int) / 256 = ((N' / 256 : Nat) : Int) := by omega
      have hr256 : r < 256 := by omega
      have hq : N' / 256 < 4294967296 := by omega
      have hc : r = (UInt8.ofNat r).toNat := by rw [UInt8.toNat_ofNat']; omega
      generalize N' / 256 = q at *
      have HC := Lib.hid hc
      have HS := Lib.hid (And.intro hsg (And.intro hll hbw))
      clear hrr hc hsg hll hbw hr
      go_upto_region 5 with fail
      have SL := Lib.hid (Mg.lit_one wr 5 (.int .u8 (r : Nat)))
      have SU := Lib.hid (HS.out.1.below (below1 wr (.cells #[.int .u8 (r : Nat)] 5)))
      have BB := Lib.hid (HS.out.2.2.alloc HS.out.2.2.size (.cells #[.int .u8 (r : Nat)] 5))
      have b1 : 1 + i ≤ maxLen := by unfold maxLen; omega
      have b2 : (1 + i) * 1 ≤ 140737488355328 := by omega
      have OV := byv_one l
      have VB : Hid (vblk (.slice (some ⟨wr.heap.size, 0, none⟩) 1 1) = some wr.heap.size) := Lib.hid rfl
      have hws : Hid (w.heap.size ≤ wr.heap.size) := Lib.hid HS.out.2.2.size
      go_wp2_with (at_builtin; refine wpList_append_any _ rfl (.tmp 16) (.tmp 17) 68 rfl 5 ix (.int .u8 0) 1 1 Tryz.underlying68 J.out.1 J.out.2.1 J.out.2.2.1 J.out.2.2.2 rfl (by decide) (.slice (some ⟨wr.heap.size, 0, none⟩) 1 1) 1 [.int .u8 (r : Nat)] rfl SL.out _ i (byv l) rfl SU.out OV b1 b2 ?grow)
      case grow =>
        intro v' w6 hs6 hv6 hk6
        obtain ⟨ao', cp', hv'⟩ : ∃ ao cp, v' = .slice ao (1 + i) cp := let ⟨_, ao, cp, h, _⟩ := hs6; ⟨ao, cp, h⟩
        subst hv'
        have H6 : Hid (Sg w6 1 (.slice ao' (i + 1) cp') (i + 1) (byv (UInt8.ofNat r :: l)) ∧ (UInt8.ofNat r :: l).length = i + 1 ∧ Below w.heap.size w w6) := Lib.hid (by
          refine ⟨?_, by rw [List.length_cons, HS.out.2.1], BB.out.trans (hk6.below BB.out.size (fun q hq e => ?_))⟩
          · have h := hs6
            rw [Nat.add_comm 1 i] at h
            have e : byv (UInt8.ofNat r :: l) = [.int .u8 (r : Nat)] ++ byv l := by
              show Value.int .u8 ((UInt8.ofNat r).toNat : Nat) :: byv l = _
              rw [← HC.out]; rfl
            rw [e]; exact h
          · rw [VB.out] at e
            have := Option.some.inj e
            have := hws.out
            omega)
        rw [Nat.add_comm 1 i]
        clear hs6 hv6 hk6 SL SU BB VB hws HS
        go_wp2_with fail
        go_roundw
        case rel => exact ⟨i + 1, q, _, rfl, by go_num, by omega, hq, H6⟩
        case measure => simp [intOf]; omega
    · obtain rfl : i = 4 := by omega
      have hcv := run_str (src := 68) (dst := 9) (e := 5) Tryz.underlying68 Tryz.underlying5 Tryz.underlying9 hsg
      have HB := Lib.hid (And.intro hll hbw)
      clear hr hsg hll hbw
      go_wp2_with fail
      go_ret
      exact ⟨⟨l, rfl, HB.out.1⟩, HB.out.2⟩
end Rf
end Go.Proofs.YtcbkbjpdfanjpaaGreatDoor

namespace Go.Proofs.YtcbkbjpdfanjpaaGreatDoor
open Go.RowKit
set_option maxRecDepth 100000
namespace Rf
theorem letters_none {k : Int} (h : Ms.letters k = none) : ∀ r ∈ Ms.rows, ((k == (r.1 : Int))) = false := by
  unfold Ms.letters at h
  rw [Option.map_eq_none_iff, List.find?_eq_none] at h
  intro r hr
  have := h r hr
  simp only [decide_eq_true_eq] at this
  exact beq_eq_false_iff_ne.2 (fun e => this e.symm)
set_option maxHeartbeats 8000000 in
theorem fields_ok (k : Int) (w : World) :
    Calls Tryz.prog 22 #[.int .i64 k] w fun e w' => e = .returned (.tuple #[.string (by8 ((Ms.letters k).getD [])), .bool (Ms.letters k).isSome]) ∧ w = w' := by
  cases hl : Ms.letters k with
  | none =>
    have hn := letters_none hl
    clear hl
    unfold Ms.rows at hn
    simp only [List.mem_cons, List.not_mem_nil, or_false, forall_eq_or_imp, forall_eq] at hn
    obtain ⟨h1, h2, h3, h4, h5, h6, h7, h8, h9, h10, h11, h12, h13, h14, h15, h16, h17, h18, h19, h20, h21, h22, h23, h24, h25, h26, h27, h28, h29⟩ := hn
    go_enter Tryz.func22, Tryz.ntmps22
    go_wp2_with fail
    go_ret2
    exact ⟨rfl, rfl⟩
  | some ls =>
    obtain ⟨r, hr, rfl, rfl⟩ := Ms.letters_mem hl
    clear hl
    unfold Ms.rows at hr
    simp only [List.mem_cons, List.not_mem_nil, or_false] at hr
    rcases hr with rfl | rfl | rfl | rfl | rfl | rfl | rfl | rfl | rfl | rfl | rfl | rfl | rfl | rfl | rfl | rfl | rfl | rfl | rfl | rfl | rfl | rfl | rfl | rfl | rfl | rfl | rfl | rfl | rfl
    all_goals (
      go_enter Tryz.func22, Tryz.ntmps22
      go_wp2_with fail
      go_ret2
      exact ⟨rfl, rfl⟩)
end Rf
end Go.Proofs.YtcbkbjpdfanjpaaGreatDoor

namespace Go.Proofs.YtcbkbjpdfanjpaaGreatDoor
open Go.RowKit
set_option maxRecDepth 100000
namespace Rf
open Spl (sv)
open Mg (FV NN uv bv tR)
set_option maxHeartbeats 1000000 in
theorem text_ok (x : S) (hx : x.length ≤ 100000) (w : World) : Calls Tryz.prog 58 #[.string (by8 x)] w fun e w' => (∃ l : S, e = .returned (.string (by8 l)) ∧ l.length = 4 + x.length) ∧ Below w.heap.size w w' := by
  have hsz := by8_size x
  have P := Lib.hid (num_ok x.length (by omega) w)
  have HA : Hid (∀ l : S, by8 l ++ by8 x = by8 (l ++ x)) := Lib.hid fun l => by8_app l x
  obtain ⟨n, hn⟩ : ∃ n, n = x.length := ⟨_, rfl⟩
  rw [← hn] at hsz P hx
  have HN := Lib.hid hn
  clear hn
  go_enter Tryz.func58, Tryz.ntmps58
  go_wp2_with (go_at_call 84; refine P.out.mono ?_; rintro e w2 ⟨⟨l, rfl, hl4⟩, hb⟩; have hs4 := by8_size l)
  go_ret
  refine ⟨⟨l ++ x, ?_, by rw [List.length_append, hl4]⟩, hb⟩
  rw [← HA.out]; rfl
set_option maxHeartbeats 4000000 in
theorem names_ok (F : Nat → Prop) (a : Option Addr) (n c : Nat) (l : List S) (w : World) (h : Rs F w a n c (sv l)) (hl : l.length ≤ 6) (hw : ∀ x ∈ l, x.length ≤ 70) :
    Calls Tryz.prog 24 #[.slice a n c] w fun e w' => (∃ z : S, e = .returned (.string (by8 z)) ∧ z.length ≤ 1000) ∧ Below w.heap.size w w' := by
  have hln : l.length = n := by rw [← Spl.sv_len]; exact h.len
  have HS := Lib.hid (And.intro h (And.intro hln hw))
  have hn6 : n ≤ 6 := by omega
  have TX : Hid (∀ z : S, z.length ≤ 600 → Calls Tryz.prog 58 #[.string (by8 z)] w fun e w' => (∃ l : S, e = .returned (.string (by8 l)) ∧ l.length = 4 + z.length) ∧ Below w.heap.size w w') := Lib.hid fun z hz => text_ok z (by omega) w
  clear h hl hln hw
  go_enter Tryz.func24, Tryz.ntmps24
  go_upto_region 3 with fail
  go_loop [3, 8] (fun v3 v8 => ∃ (i : Nat) (z : S), v3 = .string (by8 z) ∧ v8 = .int .i64 (i : Nat) ∧ i ≤ n ∧ z.length ≤ 71 * i) (fun _ v => n - (intOf v).toNat)
  case atStart => exact ⟨0, [], rfl, rfl, Nat.zero_le _, Nat.zero_le _⟩
  case round =>
    obtain ⟨i, z, rfl, rfl, hi, hz⟩ := hrel
    by_cases hgo : i < n
    · obtain ⟨x, hx⟩ : ∃ x, l[i]? = some x := ⟨_, List.getElem?_eq_getElem (by rw [HS.out.2.1]; exact hgo)⟩
      have hx2 : (sv l)[i]? = some (.string (by8 x)) := by unfold sv; rw [List.getElem?_map, hx]; rfl
      obtain ⟨g, off, rfl, hg, -, -, hc⟩ := HS.out.1.at hx2
      have hxl := HS.out.2.2 x (List.mem_of_getElem? hx)
      clear hx hx2
      have A0 := Lib.hid (by8_app z x)
      have A1 : Hid (by8 z ++ { data := #[44] } ++ by8 x = by8 (z ++ [44] ++ x)) := Lib.hid (by
        rw [show ({ data := #[44] } : ByteArray) = by8 [44] from rfl, by8_app, by8_app])
      have s1 := by8_size z
      have s2 := by8_size x
      have s3 : (by8 z ++ { data := #[44] }).size = z.length + 1 := by rw [show ({ data := #[44] } : ByteArray) = by8 [44] from rfl, by8_app, by8_size, List.length_append]; rfl
      by_cases h0 : i = 0
      · subst h0
        have hc0 : w.cell? ⟨g, off, none⟩ = some (.string (by8 x)) := hc
        go_wp2_with fail
        go_round
        case rel => exact ⟨1, z ++ x, by rw [A0.out], by go_num, by omega, by rw [List.length_append]; omega⟩
        case measure => simp [intOf]; omega
      · have hi0 : ((0 : Int) < (i : Int)) = True := eq_true (by omega)
        go_wp2_with fail
        go_round
        case rel => exact ⟨i + 1, z ++ [44] ++ x, by rw [A1.out], by go_num, by omega, by rw [List.length_append, List.length_append]; simp; omega⟩
        case measure => simp [intOf]; omega
    · obtain rfl : i = n := by omega
      have P := Lib.hid (TX.out z (by omega))
      go_wp2_with (go_at_call 58; refine P.out.mono ?_; rintro e w2 ⟨⟨y, rfl, hy⟩, hb⟩)
      go_ret
      exact ⟨⟨y, rfl, by omega⟩, hb⟩
end Rf
end Go.Proofs.YtcbkbjpdfanjpaaGreatDoor
