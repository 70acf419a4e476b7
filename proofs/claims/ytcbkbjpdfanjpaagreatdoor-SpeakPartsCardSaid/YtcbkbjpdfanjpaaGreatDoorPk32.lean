/-
hello: a word; strings.Cut at one byte.
strings.Cut at one byte; what the program's small functions do.
Openers of a law's arguments: strings, numbers, slices of numbers: plain facts on cells out of a reading.
errors.Is at two of the own sentinels, and api.Code: the number of a sentinel.
api.Code: the number of a sentinel; what the listed variables give.
-/
import Derived.Deep.DeepCutAuto
import Derived.Test.YtcbkbjpdfanjpaaGreatDoorRows
import Derived.LaidEql
import Derived.Stop.Asserts
import Derived.Stop.LaidErr
import Derived.RowKitTokens
import Derived.LoopTactic
import Derived.Outline
import Derived.Test.YtcbkbjpdfanjpaaGreatDoorPk21
import Derived.Test.YtcbkbjpdfanjpaaGreatDoorPk31
import Derived.Test.YtcbkbjpdfanjpaaGreatDoorPk03
import Derived.Test.YtcbkbjpdfanjpaaGreatDoorPk01
namespace Go.Proofs.YtcbkbjpdfanjpaaGreatDoor
open Go.RowKit HelP
set_option maxRecDepth 100000
def bs (l : List UInt8) : ByteArray := ⟨l.toArray⟩
theorem bs_l (l : List UInt8) : (bs l).data.toList = l := rfl
theorem bs_of (s : ByteArray) : bs s.data.toList = s := by
  apply ByteArray.ext; simp [bs]
theorem bs_size (l : List UInt8) : (bs l).size = l.length := by simp [bs, ByteArray.size]
theorem emp_l (s : ByteArray) : s.toList.isEmpty = decide (s.size = 0) := by
  rw [ByteArray.toList_eq, Bool.eq_iff_iff, List.isEmpty_iff, decide_eq_true_iff, ← List.length_eq_zero_iff, Array.length_toList]
  rfl
theorem at_l (s : ByteArray) (i : Nat) (h : i < s.size) : s[i]'h = s.data.toList.getD i 0 := by
  have hl : i < s.data.toList.length := by rw [Array.length_toList]; exact h
  rw [List.getD_eq_getElem?_getD, List.getElem?_eq_getElem hl]
  rfl
theorem take_snoc (s : ByteArray) (i : Nat) (h : i < s.size) : s.data.toList.take (i + 1) = s.data.toList.take i ++ [s[i]'h] := by
  have hl : i < s.data.toList.length := by rw [Array.length_toList]; exact h
  rw [at_l s i h, List.take_add_one, List.getD_eq_getElem?_getD, List.getElem?_eq_getElem hl]
  rfl
theorem word_bad {s : ByteArray} {i : Nat} (h : i < s.size) (hc : okC (s[i]'h) = false) : wordL s.data.toList = false := by
  have hm : s[i]'h ∈ s.data.toList := by
    have hl : i < s.data.toList.length := by rw [Array.length_toList]; exact h
    rw [at_l s i h, List.getD_eq_getElem?_getD, List.getElem?_eq_getElem hl]
    exact List.getElem_mem hl
  unfold wordL
  have : s.data.toList.all okC = false := by
    rw [List.all_eq_false]
    exact ⟨_, hm, by simp [hc]⟩
  rw [this]
  rfl
set_option maxHeartbeats 2000000 in
theorem word_ok (s : ByteArray) (hs : s.size ≤ 2000) (w : World) : Calls Tryz.prog 19 #[.string s] w fun e w' => e = .returned (.bool (wordL s.data.toList)) ∧ w = w' := by
  go_enter Tryz.func19, Tryz.ntmps19
  go_wp2_with fail
  go_loop [6] (fun v => ∃ i : Nat, v = .int .i64 i ∧ i ≤ s.size ∧ Hid ((s.data.toList.take i).all okC = true)) (fun v => 3000 - (intOf v).toNat)
  case atStart => exact ⟨0, rfl, by omega, Lib.hid rfl⟩
  case round =>
    obtain ⟨i, rfl, hi, ha⟩ := hrel
    rcases Nat.lt_or_ge i s.size with h | h
    · have hbad := fun hc => word_bad (s := s) h hc
      have HBAD := Lib.hid hbad
      have hsn := take_snoc s i h
      have HSN := Lib.hid hsn
      clear hbad hsn
      by_cases c1 : (s[i]'h).toNat < 33
      · have hb : okC (s[i]'h) = false := by unfold okC; rw [decide_eq_false (by omega)]; rfl
        have hb2 := HBAD.out hb
        have HB2 := Lib.hid hb2
        clear hb hb2
        go_wp2_with fail
        go_ret
        exact ⟨by rw [HB2.out]; rfl, rfl⟩
      · by_cases c2 : 126 < (s[i]'h).toNat
        · have hb : okC (s[i]'h) = false := by unfold okC; rw [decide_eq_false (p := (s[i]'h).toNat ≤ 126) (by omega), Bool.and_false]; rfl
          have hb2 := HBAD.out hb
          have HB2 := Lib.hid hb2
          have d1 : ((((s[i]'h).toNat : Nat) : Int) < 33) = False := eq_false (by omega)
          clear hb hb2
          go_wp2_with fail
          go_ret
          exact ⟨by rw [HB2.out]; rfl, rfl⟩
        · have d1 : ((((s[i]'h).toNat : Nat) : Int) < 33) = False := eq_false (by omega)
          have d2 : (126 < (((s[i]'h).toNat : Nat) : Int)) = False := eq_false (by omega)
          by_cases c3 : (s[i]'h).toNat = 45
          · have hb : okC (s[i]'h) = false := by unfold okC; rw [decide_eq_false (p := (s[i]'h).toNat ≠ 45) (by omega), Bool.and_false]
            have hb2 := HBAD.out hb
            have HB2 := Lib.hid hb2
            have d3 : ((((s[i]'h).toNat : Nat) : Int) == 45) = true := by rw [beq_iff_eq]; omega
            clear hb hb2 c3
            go_wp2_with fail
            go_ret
            exact ⟨by rw [HB2.out]; rfl, rfl⟩
          · have hok : okC (s[i]'h) = true := by unfold okC; rw [decide_eq_true (by omega), decide_eq_true (by omega), decide_eq_true (by omega)]; rfl
            have hall : (s.data.toList.take (i + 1)).all okC = true := by
              rw [HSN.out, List.all_append, ha.out]
              simp [hok]
            have HALL := Lib.hid hall
            have d3 : ((((s[i]'h).toNat : Nat) : Int) == 45) = false := by rw [beq_eq_false_iff_ne]; omega
            clear hok hall c3
            go_wp2_with fail
            go_round
            case rel => exact ⟨i + 1, by go_num, by omega, HALL⟩
            case measure => simp [intOf]; omega
    · have hlen : s.data.toList.length = s.size := Array.length_toList
      have hie : i = s.size := by omega
      have hall : s.data.toList.all okC = true := by
        have e := ha.out
        rw [hie, List.take_of_length_le (by omega)] at e
        exact e
      have HE : Hid (wordL s.data.toList = (decide (1 ≤ s.size) && decide (s.size ≤ 64))) := Lib.hid (by unfold wordL; rw [hall, hlen]; rfl)
      clear hlen hie hall
      rcases Nat.lt_or_ge s.size 1 with h1 | h1
      · have HF : Hid (wordL s.data.toList = false) := Lib.hid (by rw [HE.out, decide_eq_false (by omega)]; rfl)
        have d : s.toList.isEmpty = true := by rw [emp_l]; exact decide_eq_true (by omega)
        go_wp2_with fail
        go_ret
        exact ⟨by rw [HF.out]; rfl, rfl⟩
      · have HF : Hid (wordL s.data.toList = decide (s.size ≤ 64)) := Lib.hid (by rw [HE.out, decide_eq_true (by omega)]; rfl)
        have d : s.toList.isEmpty = false := by rw [emp_l]; exact decide_eq_false (by omega)
        go_wp2_with fail
        go_ret
        refine ⟨?_, rfl⟩
        rw [HF.out]
        refine congrArg Ending.returned (congrArg Value.bool ?_)
        rw [decide_eq_decide]
        omega
end Go.Proofs.YtcbkbjpdfanjpaaGreatDoor

namespace Go.Proofs.YtcbkbjpdfanjpaaGreatDoor
open Go.RowKit HelP
set_option maxRecDepth 100000
theorem ib_mem (c : UInt8) : ∀ l : List UInt8, Lib.indexByte l c = if c ∈ l then (((upTo c l).length : Nat) : Int) else -1
  | [] => by simp [Lib.indexByte]
  | x :: l => by
    have ih := ib_mem c l
    by_cases hx : x = c
    · subst hx
      simp [Lib.indexByte, upTo]
    · have e : upTo c (x :: l) = x :: upTo c l := by simp [upTo, hx]
      have hne : (x == c) = false := by simpa using hx
      have hm : (c ∈ x :: l) ↔ c ∈ l := by
        rw [List.mem_cons]
        exact ⟨fun h => h.elim (fun e => absurd e.symm hx) id, .inr⟩
      show (if x == c then 0 else if Lib.indexByte l c == -1 then -1 else Lib.indexByte l c + 1) = _
      rw [hne, e, ih]
      by_cases h : c ∈ l
      · rw [if_pos h, if_pos (hm.2 h)]
        have h2 : ((((upTo c l).length : Nat) : Int) == -1) = false := by rw [beq_eq_false_iff_ne]; omega
        rw [h2]
        simp
      · rw [if_neg h, if_neg (fun h' => h (hm.1 h'))]
        rfl
theorem ext_take (s : ByteArray) (k : Nat) : s.extract 0 k = bs (s.data.toList.take k) := by
  apply ByteArray.ext
  simp [bs, ByteArray.data_extract]
  apply Array.ext'
  simp [Array.toList_extract]
theorem ext_drop (s : ByteArray) (k : Nat) : s.extract k s.size = bs (s.data.toList.drop k) := by
  have hl : s.data.toList.length = s.size := Array.length_toList
  apply ByteArray.ext
  apply Array.ext'
  simp only [bs, ByteArray.data_extract, Array.toList_extract, List.extract_eq_take_drop]
  rw [List.take_of_length_le (by rw [List.length_drop]; omega)]
theorem lcut_ok (s : ByteArray) (c : UInt8) (hs : s.size ≤ 5000000) (w : World) : Calls Tryz.prog 74 #[.string s, .string ⟨#[c]⟩] w fun e w' =>
    e = .returned (.tuple #[.string (bs (upTo c s.data.toList)), .string (bs (if c ∈ s.data.toList then s.data.toList.drop ((upTo c s.data.toList).length + 1) else [])), .bool (decide (c ∈ s.data.toList))]) ∧ Below w.heap.size w w' := by
  have hib := ib_mem c s.data.toList
  have hlen : s.data.toList.length = s.size := Array.length_toList
  by_cases hm : c ∈ s.data.toList
  · rw [if_pos hm] at hib
    have hk := congrArg List.length (upTo_mem hm)
    rw [List.length_append, List.length_cons, List.length_drop, hlen] at hk
    have hut := upTo_take c s.data.toList
    have het := ext_take s (upTo c s.data.toList).length
    rw [hut] at het
    have hed := ext_drop s ((upTo c s.data.toList).length + 1)
    rw [if_pos hm, decide_eq_true hm, ← het, ← hed]
    generalize (upTo c s.data.toList).length = k at *
    have hks : k + 1 ≤ s.size := by omega
    have HIB := Lib.hid hib
    clear hk hut het hed hm hlen hib
    go_enter Tryz.func74, Tryz.ntmps74
    go_upto_region 2 with (go_at_call 96; refine (Sh.stringslite_Index_one _ _ _).mono ?_; rintro e w' ⟨rfl, rfl⟩)
    rw [HIB.out]
    have HKS := Lib.hid hks
    go_upto_region 3 with fail
    go_region
    go_wp2_with fail
    refine bodyPost_ret (results_tmp3 rfl _ _ _) rfl ?_
    exact ⟨rfl, below_drewN (Below.refl _ _) 1⟩
  · rw [if_neg hm] at hib
    rw [if_neg hm, decide_eq_false hm, upTo_not hm, bs_of]
    have HIB := Lib.hid hib
    clear hm hlen hib
    go_enter Tryz.func74, Tryz.ntmps74
    go_upto_region 2 with (go_at_call 96; refine (Sh.stringslite_Index_one _ _ _).mono ?_; rintro e w' ⟨rfl, rfl⟩)
    rw [HIB.out]
    go_wp2_with fail
    refine bodyPost_ret (results_tmp3 rfl _ _ _) rfl ?_
    exact ⟨rfl, Below.refl _ _⟩
theorem cut1_ok (s : ByteArray) (c : UInt8) (hs : s.size ≤ 5000000) (w : World) : Calls Tryz.prog 43 #[.string s, .string ⟨#[c]⟩] w fun e w' =>
    e = .returned (.tuple #[.string (bs (upTo c s.data.toList)), .string (bs (if c ∈ s.data.toList then s.data.toList.drop ((upTo c s.data.toList).length + 1) else [])), .bool (decide (c ∈ s.data.toList))]) ∧ Below w.heap.size w w' := by
  have hc := lcut_ok s c hs w
  obtain ⟨A, hA⟩ : ∃ A, A = bs (upTo c s.data.toList) := ⟨_, rfl⟩
  obtain ⟨B, hB⟩ : ∃ B, B = bs (if c ∈ s.data.toList then s.data.toList.drop ((upTo c s.data.toList).length + 1) else []) := ⟨_, rfl⟩
  obtain ⟨D, hD⟩ : ∃ D, D = decide (c ∈ s.data.toList) := ⟨_, rfl⟩
  rw [← hA, ← hB, ← hD] at hc ⊢
  have HC := Lib.hid hc
  clear hc hA hB hD
  go_enter Tryz.func43, Tryz.ntmps43
  go_wp2_with (go_at_call 74; refine HC.out.mono ?_; rintro e w' ⟨rfl, hb⟩)
  refine bodyPost_ret (results_tmp3 rfl _ _ _) rfl ?_
  exact ⟨rfl, hb⟩
/-- a peer who is read -/
def HB (w : World) (h : Nat) (p : List UInt8) (m : Nat) (q : List UInt8) (e : Value) : Prop := Blk w h 60 [.string (bs p), .int .i64 (m : Nat), .string (bs q), e]
theorem done_ok (h : Nat) (p q : List UInt8) (m : Nat) (e : Value) (w : World) (hB : HB w h p m q e) : Calls Tryz.prog 42 #[.pointer (some ⟨h, 0, none⟩)] w fun e w' => e = .returned (.bool (!q.isEmpty)) ∧ w = w' := by
  have c2 := hB.cell 2 _ rfl
  have he : (bs q).toList.isEmpty = q.isEmpty := by rw [ByteArray.toList_eq]; rfl
  have HE := Lib.hid he
  clear he hB
  go_enter Tryz.func42, Tryz.ntmps42
  go_wp2_with fail
  go_ret
  exact ⟨by rw [← HE.out]; rfl, rfl⟩
theorem peer_ok (h : Nat) (p q : List UInt8) (m : Nat) (e : Value) (w : World) (hB : HB w h p m q e) : Calls Tryz.prog 17 #[.pointer (some ⟨h, 0, none⟩)] w fun e w' => e = .returned (.string (bs q)) ∧ w = w' := by
  have c2 := hB.cell 2 _ rfl
  clear hB
  go_enter Tryz.func17, Tryz.ntmps17
  go_wp2_with fail
  go_ret
  exact ⟨rfl, rfl⟩
theorem hnew_ok (b : Bool) (w : World) : Calls Tryz.prog 4 #[.bool b] w fun e w' => e = .returned (.pointer (some ⟨w.heap.size, 0, none⟩)) ∧ HB w' w.heap.size [] (if b then 16 else 0) [] .nilIface ∧ Below w.heap.size w w' := by
  go_enter Tryz.func4, Tryz.ntmps4
  cases b
  · go_wp2_with fail
    go_ret
    exact ⟨rfl, Blk.new w 60 [.string (bs []), .int .i64 0, .string (bs []), .nilIface], below1 w _⟩
  · go_wp2_with fail
    go_ret
    exact ⟨rfl, Blk.new w 60 [.string (bs []), .int .i64 16, .string (bs []), .nilIface], below1 w _⟩
end Go.Proofs.YtcbkbjpdfanjpaaGreatDoor

namespace Go.Proofs.YtcbkbjpdfanjpaaGreatDoor
open Go.RowKit Go.ChangeShapes Go.WideShapes Go.ChangeMaps

theorem cell_lt {w : World} {a : Addr} {v : Value} (h : w.cell? a = some v) : a.block < w.heap.size ∧ a.spot = none := by
  unfold World.cell? at h
  cases hh : w.heap[a.block]? with
  | none => rw [hh] at h; cases h
  | some o =>
    refine ⟨(Array.getElem?_eq_some_iff.1 hh).1, ?_⟩
    rw [hh] at h
    cases o <;> simp at h
    exact h.1

/-- A slice of numbers that came in: each element's cell. -/
theorem open_ints_at {H : Type} {enc : TypeId × Value → H} {P : Program} {w : World} {r : Reach} {b0 base : Nat} {sp : Nat → Bool} {held : Bool} {t e : TypeId} {k : IntKind} {v : Value} {d : DataW H} {ps : List MemPlace}
    (ht : P.underlying t = some (.slice e)) (he : P.underlying e = some (.int k)) (hc : P.cellsOf e = 1)
    (hval : Value.okWide P w r b0 t v) (h : DataW.Trod enc P w base sp held t v d ps) :
    ∃ (a : Option Addr) (len cap : Nat) (zs : List Int), v = .slice a len cap ∧ len ≤ cap ∧ cap ≤ maxLen ∧
      (∀ i, i < len → ∃ b off, a = some ⟨b, off, none⟩ ∧ w.cell? ⟨b, off + i, none⟩ = some (.int k (zs.getD i 0)) ∧ b < w.heap.size ∧ (Lit.int k (zs.getD i 0)).wf = true) := by
  obtain ⟨a0, len, cap, rfl⟩ := okWide_slice ht hval
  obtain ⟨fuel, hf⟩ := h
  rcases open_ints ht he hc hf with ⟨hcs, hx⟩ | ⟨a, len', cap', zs, hcs, _, hl, hm, hz, hx, hcell, hwz⟩
  · simp [Value.cells] at hcs
    obtain ⟨rfl, rfl, rfl⟩ := hcs
    exact ⟨none, 0, 0, [], rfl, Nat.le_refl _, Nat.zero_le _, fun i hi => absurd hi (Nat.not_lt_zero _)⟩
  · simp [Value.cells] at hcs
    obtain ⟨rfl, rfl, rfl⟩ := hcs
    refine ⟨some a, len, cap, zs, rfl, hl, hm, fun i hi => ?_⟩
    have hi' : i < zs.length := by rw [hz]; split <;> omega
    have hci := hcell i hi'
    have h00 := hcell 0 (by omega)
    rw [Addr.add_zero'] at h00
    have hlt := cell_lt h00
    obtain ⟨b, off, s⟩ := a
    have hs : s = none := hlt.2
    subst hs
    rw [Addr.add_lit] at hci
    refine ⟨b, off, rfl, hci, hlt.1, ?_⟩
    have : zs.getD i 0 ∈ zs := by
      rw [List.getD_eq_getElem?_getD, List.getElem?_eq_getElem hi']; exact List.getElem_mem hi'
    exact hwz _ this
end Go.Proofs.YtcbkbjpdfanjpaaGreatDoor

namespace Go.Proofs.YtcbkbjpdfanjpaaGreatDoor
open Go.RowKit Go.Extern.Stop Go.Stop Go.Extern Go.ChangeShapes

/-- what the model runs for reflectlite's Comparable -/
def cmpFn : TypeId → Sem Value := fun t => do Extern.Rtype.noPackHeld "Comparable" t; pure (.bool (← typeInfo t).comparable)
theorem isComparable (w : World) : (Extern.ReflectliteType.method cmpFn #[.agg #[.pointer (some ⟨13, 182, none⟩)]]).run Tryz.prog w = .ok (.bool true) w := by kernel_rfl
theorem isComp : (Tryz.prog.info? 182).map (·.comparable) = some true := by kernel_rfl
theorem isSize : (Tryz.prog.info? 197).map (·.size) = some 1 := by kernel_rfl
/-! ### The listed sentinels -/
def sentB (nm : String) : DataW Unit → Bool
  | .iface n (.ptr (.agg [.lit (.string _)])) => n == nm
  | _ => false
theorem sentB_of {nm : String} {d : DataW Unit} (h : sentB nm d = true) : ∃ text, d = .iface nm (.ptr (.agg [.lit (.string text)])) := by
  unfold sentB at h
  split at h
  · rename_i n text
    obtain rfl : n = nm := by simpa using h
    exact ⟨text, rfl⟩
  · cases h

/-- the variables 'gs' hold sentinels at the addresses 'ads', all different -/
structure Sents (W : World) (tp : TypeId) (gs : List Nat) (ads : List Addr) : Prop where
  len : ads.length = gs.length
  nodup : ads.Nodup
  cell : ∀ i, i < gs.length → W.cell? ⟨gs.getD i 0, 0, none⟩ = some (.iface tp (.pointer (some (ads.getD i ⟨0, 0, none⟩))))
  row : ∀ i, i < gs.length → ∃ c t, W.heap[(ads.getD i ⟨0, 0, none⟩).block]? = some (.cells c t (0, 0))

theorem sents_aux {P : Program} {nm : String} {W : World} {ti tp te ts : TypeId} {ms : Array (String × TypeId)} {f : Field}
    (hi : P.underlying ti = some (.interface ms)) (hrow : ∀ u, P.typeName? 3 u = some nm → u = tp)
    (hp : P.underlying tp = some (.pointer te)) (he : P.underlying te = some (.struct #[f])) (hft : f.type = ts) (hfo : f.offset = 0) (hs : P.underlying ts = some .string) (hc : P.cellsOf te = 1) (hcs : P.cellsOf ts = 1) :
    ∀ (l : List (String × DataW Unit)) (gs : List Nat) (ps : List MemPlace), DataW.LaidVars P W l ps → ps.Nodup →
      (∀ b off, MemPlace.cell b off ∈ ps → (∃ c t, W.heap[b]? = some (.cells c t (0, 0))) ∧ ∀ u v, W.cell? ⟨b, off, none⟩ = some (.iface u v) → Value.okWide P W .any 0 u v) →
      (l.all fun x => sentB nm x.2) = true → l.map (fun x => P.globalNamed x.1) = gs.map some → (∀ g ∈ gs, (P.globals[g]?).map (·.type) = some ti) →
      ∃ ads, Sents W tp gs ads ∧ ∀ a ∈ ads, a.spot = none ∧ MemPlace.cell a.block a.off ∈ ps
  | [], gs, ps, _, _, _, _, hgs, _ => by
    obtain rfl : gs = [] := by cases gs <;> simp_all
    exact ⟨[], ⟨rfl, List.nodup_nil, fun i h => absurd h (Nat.not_lt_zero _), fun i h => absurd h (Nat.not_lt_zero _)⟩, fun a h => by cases h⟩
  | x :: l, gs, ps, hv, hnd, hrows, hall, hgs, hts => by
    obtain ⟨n, d⟩ := x
    simp only [List.all_cons, Bool.and_eq_true] at hall
    obtain ⟨text, rfl⟩ := sentB_of hall.1
    match gs, hgs, hts with
    | [], hgs, _ => simp at hgs
    | g :: gs, hgs, hts =>
      simp only [List.map_cons, List.cons.injEq] at hgs
      obtain ⟨g0, t0, cs0, f0, p0, q0, hg0, ht0, hv0, hd0, hr, rfl⟩ := hv
      obtain rfl := Option.some.inj (hgs.1.symm.trans hg0)
      obtain rfl := Option.some.inj ((hts g (by simp)).symm.trans ht0)
      obtain ⟨l0⟩ := cs0
      have ok0 : ∀ u v, l0 = [.iface u v] → Value.okWide P W .any 0 u v := fun u v e => by
        subst e
        exact (hrows g 0 (by simp [MemPlace.row])).2 u v (by simpa using World.var?_cell hg0 hv0 0)
      obtain ⟨a0, s0, rfl, hc0, hs0, hz0, rfl⟩ := errorString_of_trod hi hrow hp he hft hfo hs hc hcs hd0 ok0
      have hnd2 := List.nodup_append.1 hnd
      obtain ⟨ads, hS, hin⟩ := sents_aux hi hrow hp he hft hfo hs hc hcs l gs q0 hr hnd2.2.1 (fun b off h => hrows b off (List.mem_append_right _ h)) hall.2 hgs.2 (fun g hg => hts g (List.mem_cons_of_mem _ hg))
      have hsp : a0.spot = none := (cell_lt hc0).2
      refine ⟨a0 :: ads, ⟨by simp [hS.len], ?_, ?_, ?_⟩, ?_⟩
      · refine List.nodup_cons.2 ⟨fun hmem => ?_, hS.nodup⟩
        exact hnd2.2.2 (MemPlace.cell a0.block a0.off) (by simp [MemPlace.row]) _ (hin a0 hmem).2 rfl
      · intro i hi'
        cases i with
        | zero => simpa using World.var?_cell hg0 hv0 0
        | succ i => simpa using hS.cell i (by simpa using hi')
      · intro i hi'
        cases i with
        | zero => simpa using (hrows a0.block a0.off (by simp [MemPlace.row])).1
        | succ i => simpa using hS.row i (by simpa using hi')
      · intro a ha
        rcases List.mem_cons.1 ha with rfl | ha
        · exact ⟨hsp, by simp [MemPlace.row]⟩
        · exact ⟨(hin a ha).1, List.mem_append_right _ (hin a ha).2⟩
end Go.Proofs.YtcbkbjpdfanjpaaGreatDoor

namespace Go.Proofs.YtcbkbjpdfanjpaaGreatDoor
open Go.RowKit Go.Extern.Stop Go.Stop Go.Extern Go.ChangeShapes

theorem esRow : ∀ u, Tryz.prog.typeName? 3 u = some "*errors.errorString" → u = 182 := typeName_ptr_named (nm := "errors.errorString") (by kernel_rfl) (by kernel_rfl) (by decide)

theorem errInfo : (Tryz.prog.info? 30).map (·.size) = some 1 := by kernel_rfl
/-- the element of an array literal -/
theorem run_index_agg {P : Program} {t e : TypeId} {n : Nat} {ms : Array (String × TypeId)} {i : TypeInfo} {xs : Array Value} (ht : P.underlying t = some (.array n e)) (he : P.underlying e = some (.interface ms)) (hi : P.info? e = some i) (hz : i.size = 1) (k : Nat) (hk : k < n) {v : Value} (hv : xs[k]? = some v)
    (w : World) : (Instr.index t (.agg xs) (.int .i64 k)).run P w = .ok v w := by
  simp [Instr.index, run_underlying ht, hk, part, isAgg, run_underlying he, sizeOf, typeInfo, hi, hz, hv, asIntOf]

/-- the variables 'gs' hold sentinels at the addresses 'ad', all different -/
structure SentF (W : World) (tp : TypeId) (gs : List Nat) (ad : Nat → Addr) : Prop where
  cell : ∀ i, i < gs.length → W.cell? ⟨gs.getD i 0, 0, none⟩ = some (.iface tp (.pointer (some (ad i))))
  row : ∀ i, i < gs.length → ∃ c t, W.heap[(ad i).block]? = some (.cells c t (0, 0))
  inj : ∀ i j, i < j → j < gs.length → ad j ≠ ad i

theorem Sents.fn {W : World} {tp : TypeId} {gs : List Nat} {ads : List Addr} (h : Sents W tp gs ads) : SentF W tp gs (fun i => ads.getD i ⟨0, 0, none⟩) where
  cell := h.cell
  row := h.row
  inj := fun i j hij hj he => by
    have hl := h.len
    have hi' : i < ads.length := by omega
    have hj' : j < ads.length := by omega
    simp only [List.getD_eq_getElem?_getD, List.getElem?_eq_getElem hi', List.getElem?_eq_getElem hj', Option.getD_some] at he
    have := (List.getElem_inj h.nodup).1 he
    omega

theorem SentF.same {W W' : World} {tp : TypeId} {gs : List Nat} {ad : Nat → Addr} (h : SentF W tp gs ad) (hb : Below W.heap.size W W') : SentF W' tp gs ad where
  cell := fun i hi => by
    have := h.cell i hi
    rw [hb.cell (cell_lt this).1]; exact this
  row := fun i hi => by
    obtain ⟨c, t, hr⟩ := h.row i hi
    exact ⟨c, t, by rw [hb.block _ (Array.getElem?_eq_some_iff.1 hr).1]; exact hr⟩
  inj := h.inj

/-- What a list of sentinels gives. -/
theorem sents_of {laid : List (String × DataW Unit)} {gs : List Nat} {W : World} (hpl : ∀ w : World, laidMetH Tryz.prog laid w = laidMet Tryz.prog laid w) (h : laidMetH Tryz.prog laid W) (hall : (laid.all fun x => sentB "*errors.errorString" x.2) = true)
    (hgs : laid.map (fun x => Tryz.prog.globalNamed x.1) = gs.map some) (hts : (gs.all fun g => (Tryz.prog.globals[g]?).map (·.type) == some 30) = true) : ∃ ad, SentF W 182 gs ad := by
  rw [hpl] at h
  obtain ⟨ps, hv, hnd, hrows⟩ := h
  obtain ⟨ads, hS, _⟩ := sents_aux Tryz.underlying30 esRow Tryz.underlying182 Tryz.underlying197 rfl rfl Tryz.underlying9 (by kernel_rfl) (by kernel_rfl) laid gs ps hv hnd hrows hall hgs
    (fun g hg => by simpa using List.all_eq_true.1 hts g hg)
  exact ⟨_, hS.fn⟩
end Go.Proofs.YtcbkbjpdfanjpaaGreatDoor
