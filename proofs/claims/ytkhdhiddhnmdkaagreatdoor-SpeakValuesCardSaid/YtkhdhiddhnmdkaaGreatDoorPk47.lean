/-
term: the reader's term.
-/
import Derived.Test.YtkhdhiddhnmdkaaGreatDoorPk42
namespace Go.Proofs.YtkhdhiddhnmdkaaGreatDoor
open Go.RowKit Tm
set_option maxRecDepth 100000
namespace Tv
def kd : T → S
  | .atom _ => kAtom
  | .one k _ => k
  | .two k _ _ => k
def kids : T → List S
  | .atom _ => []
  | .one _ a => [txt a]
  | .two _ a b => [txt a, txt b]
theorem bl_one {k : S} {a : T} {x : Row} (h : x.2.1 = txt (cn lt a)) : txs (bl k [x]) = kids (cn lt (.one k a)) ∧ wt k (txs (bl k [x])) = txt (cn lt (.one k a)) := by
  have e : bl k [x] = [x] := rfl
  rw [e]
  unfold txs
  rw [List.map_cons, List.map_nil, h]
  exact ⟨rfl, rfl⟩
theorem bl_two {k : S} {a b : T} {x y : Row} (h : x.2.1 = txt (cn lt a)) (h2 : y.2.1 = txt (cn lt b)) :
    txs (bl k [x, y]) = kids (cn lt (.two k a b)) ∧ wt k (txs (bl k [x, y])) = txt (cn lt (.two k a b)) := by
  have e : bl k [x, y] = if (decide (k = kShare) && lt y.2.1 x.2.1) = true then [y, x] else [x, y] := rfl
  rw [e, h, h2]
  show txs (if _ then _ else _) = kids (if _ then _ else _) ∧ wt k (txs (if _ then _ else _)) = txt (if _ then _ else _)
  by_cases hs : k = kShare ∧ lt (txt (cn lt b)) (txt (cn lt a)) = true
  · rw [if_pos hs, if_pos (by rw [decide_eq_true hs.1, hs.2]; rfl)]
    unfold txs
    rw [List.map_cons, List.map_cons, List.map_nil, h, h2]
    exact ⟨rfl, by simp [wt, Tm.join, txt]⟩
  · rw [if_neg hs, if_neg (by
      intro hb
      rw [Bool.and_eq_true, decide_eq_true_eq] at hb
      exact hs hb)]
    unfold txs
    rw [List.map_cons, List.map_cons, List.map_nil, h, h2]
    exact ⟨rfl, by simp [wt, Tm.join, txt]⟩
theorem kd_cn (t : T) : kd (cn lt t) = kd t := by
  cases t with
  | atom w => rfl
  | one k a => rfl
  | two k a b => unfold cn; split <;> rfl
/-! the reader's ways -/
section
variable {f : Nat} {s w r0 : S}
theorem rd_atom (hw : s.takeWhile low = w) (hd0 : hd 40 (s.dropWhile low) = false) : rd (f + 1) s = if 1 ≤ w.length ∧ w.length ≤ 16 then some (.atom w, s.dropWhile low) else none := by
  unfold rd
  rw [hw]
  split
  · rename_i r e
    rw [e] at hd0
    cases hd0
  · rename_i r e
    rfl
theorem rd_zero (hw : s.takeWhile low = w) (hr : s.dropWhile low = 40 :: r0) (hc : cnt w = 0) : rd (f + 1) s = none := by
  unfold rd
  rw [hw, hr]
  simp [hc]
theorem rd_one (hw : s.takeWhile low = w) (hr : s.dropWhile low = 40 :: r0) (hc : cnt w = 1) : rd (f + 1) s = match rd f r0 with | some (a, 41 :: r2) => some (.one w a, r2) | _ => none := by
  conv => lhs; unfold rd
  rw [hw, hr]
  simp only [hc, if_true]
  rfl
theorem rd_two (hw : s.takeWhile low = w) (hr : s.dropWhile low = 40 :: r0) (hc : cnt w = 2) : rd (f + 1) s = match rd f r0 with | some (a, 44 :: r2) => (match rd f r2 with | some (b, 41 :: r3) => some (.two w a b, r3) | _ => none) | _ => none := by
  conv => lhs; unfold rd
  rw [hw, hr]
  simp [hc]
  rfl
theorem hd_cons {x : UInt8} {l : S} (h : hd x l = true) : l = x :: tl x l := by
  cases l with
  | nil => cases h
  | cons c t =>
    have e : c = x := by simpa [hd] using h
    subst e
    unfold tl
    rw [h]
    rfl
theorem tl_false {x : UInt8} {l : S} (h : hd x l = false) : tl x l = l := by unfold tl; rw [h]; rfl
variable {a b : T} {q q2 : S}
theorem A1 (hw : s.takeWhile low = w) (hr : s.dropWhile low = 40 :: r0) (hc : cnt w = 1) (h : rd f r0 = none) : rd (f + 1) s = none := by rw [rd_one hw hr hc, h]
theorem A2 (hw : s.takeWhile low = w) (hr : s.dropWhile low = 40 :: r0) (hc : cnt w = 1) (h : rd f r0 = some (a, q)) (h1 : hd 41 q = false) : rd (f + 1) s = none := by
  rw [rd_one hw hr hc, h]
  split
  · rename_i e
    simp only [Option.some.injEq, Prod.mk.injEq] at e
    rw [e.2] at h1
    cases h1
  · rfl
theorem A3 (hw : s.takeWhile low = w) (hr : s.dropWhile low = 40 :: r0) (hc : cnt w = 1) (h : rd f r0 = some (a, q)) (h1 : hd 41 q = true) : rd (f + 1) s = some (.one w a, tl 41 q) := by
  rw [rd_one hw hr hc, h]
  have := hd_cons h1
  rw [this]
  rfl
theorem B1 (hw : s.takeWhile low = w) (hr : s.dropWhile low = 40 :: r0) (hc : cnt w = 2) (h : rd f r0 = none) : rd (f + 1) s = none := by rw [rd_two hw hr hc, h]
theorem B2 (hw : s.takeWhile low = w) (hr : s.dropWhile low = 40 :: r0) (hc : cnt w = 2) (h : rd f r0 = some (a, q)) (h1 : hd 44 q = false) : rd (f + 1) s = none := by
  rw [rd_two hw hr hc, h]
  split
  · rename_i e
    simp only [Option.some.injEq, Prod.mk.injEq] at e
    rw [e.2] at h1
    cases h1
  · rfl
theorem B3 (hw : s.takeWhile low = w) (hr : s.dropWhile low = 40 :: r0) (hc : cnt w = 2) (h : rd f r0 = some (a, q)) (h1 : hd 44 q = true) (h2 : rd f (tl 44 q) = none) : rd (f + 1) s = none := by
  rw [rd_two hw hr hc, h]
  have e := hd_cons h1
  generalize tl 44 q = z at *
  subst e
  show (match rd f z with | some (b, 41 :: r3) => _ | _ => none) = none
  rw [h2]
theorem B4 (hw : s.takeWhile low = w) (hr : s.dropWhile low = 40 :: r0) (hc : cnt w = 2) (h : rd f r0 = some (a, q)) (h1 : hd 44 q = true) (h2 : rd f (tl 44 q) = some (b, q2)) (h3 : hd 41 q2 = false) : rd (f + 1) s = none := by
  rw [rd_two hw hr hc, h]
  have e := hd_cons h1
  generalize tl 44 q = z at *
  subst e
  show (match rd f z with | some (b, 41 :: r3) => _ | _ => none) = none
  rw [h2]
  split
  · rename_i e
    simp only [Option.some.injEq, Prod.mk.injEq] at e
    rw [e.2] at h3
    cases h3
  · rfl
theorem B5 (hw : s.takeWhile low = w) (hr : s.dropWhile low = 40 :: r0) (hc : cnt w = 2) (h : rd f r0 = some (a, q)) (h1 : hd 44 q = true) (h2 : rd f (tl 44 q) = some (b, q2)) (h3 : hd 41 q2 = true) : rd (f + 1) s = some (.two w a b, tl 41 q2) := by
  rw [rd_two hw hr hc, h]
  have e := hd_cons h1
  have e2 := hd_cons h3
  generalize tl 44 q = z at *
  generalize tl 41 q2 = z2 at *
  subst e
  subst e2
  show (match rd f z with | some (b, 41 :: r3) => _ | _ => none) = _
  rw [h2]
  rfl
end
theorem rd_len {f : Nat} {s q : S} {t : T} (h : rd f s = some (t, q)) : q.length ≤ s.length ∧ (txt t).length ≤ s.length ∧ wf t := by
  obtain ⟨e, hw⟩ := rd_sound f s t q h
  rw [e, List.length_append]
  exact ⟨by omega, by omega, hw⟩
def TPost (res : Option (T × S)) (r : Nat) (w : World) (e : Ending) (w' : World) : Prop :=
  match res with
  | some (t, q) => ∃ v l, e = .returned (.tuple #[tmv (kd t) (txt (cn lt t)) v, .bool true]) ∧ PT w' v l ∧ txs l = kids (cn lt t) ∧ (∀ g, vblk v = some g → w.heap.size ≤ g) ∧ Blk w' r tR [.string (by8 q)] ∧ Keeps (fun k => k = r) w w'
  | none => ∃ k t v q, e = .returned (.tuple #[tmv k t v, .bool false]) ∧ (∃ a n c, v = .slice a n c) ∧ Blk w' r tR [.string (by8 q)] ∧ Keeps (fun k => k = r) w w'
def TOk (f : Nat) : Prop := ∀ (s : S) (r : Nat) (w : World), s.length < f → s.length ≤ 1000 → Blk w r tR [.string (by8 s)] →
  Calls Tryz.prog 14 #[.pointer (some ⟨r, 0, none⟩)] w fun e w' => TPost (rd f s) r w e w'
/-- what is read after i parts -/
inductive St (f : Nat) (r0 : S) : Nat → List Row → S → Prop
  | zero : St f r0 0 [] r0
  | one (a : T) (x : Row) (q : S) : x.2.1 = txt (cn lt a) → rd f r0 = some (a, q) → St f r0 1 [x] q
  | two (a b : T) (x y : Row) (q1 q : S) : x.2.1 = txt (cn lt a) → y.2.1 = txt (cn lt b) → rd f r0 = some (a, q1) → hd 44 q1 = true → rd f (tl 44 q1) = some (b, q) → St f r0 2 [x, y] q
theorem krow {F : Nat → Prop} {a w : World} (h : Keeps F a w) (b : Nat) (r : Array Value) (hb : b < a.heap.size → F b) : Keeps F a (w.setRow b r) :=
  ⟨h.os, h.tape, h.output, by simpa using h.size, fun i hi hn => (setRow_other _ _ _ _ (fun e => hn (by subst e; exact hb hi))).trans (h.block i hi hn)⟩
theorem ret_tm {fn : Func} {R : Ending → World → Prop} {a : Act} {w : World} {p q : Tmp} {b : Nat} {t : TypeId} {cs : List Value} {v : Value} (h : fn.results = #[.cell p tT, .tmp q]) (hb : Blk w b t cs) (hl : cs.length = 3)
    (hp : a.tmps.getD p undef = .pointer (some ⟨b, 0, none⟩)) (hq : a.tmps.getD q undef = v) (hd : a.defers = []) (hR : R (.returned (.tuple #[.agg cs.toArray, v])) w) : bodyPost Tryz.prog fn R .ret a w := by
  refine bodyPost_ret ?_ hd hR
  have hp' : a.tmps[p]?.getD undef = .pointer (some ⟨b, 0, none⟩) := by simpa using hp
  have hq' : a.tmps[q]?.getD undef = v := by simpa using hq
  simp [results, h, hp', hq', asAddr, run_loadVar_row (P := Tryz.prog) w b t tT cs.toArray (0, 0) _ hb Tryz.underlying25 rfl (by rw [t_size]; simp [hl])]
theorem sl_one (k t : S) (v : Value) (hv : ∃ a n c, v = .slice a n c) : ∀ y ∈ ([.string (by8 k), .string (by8 t), v] : List Value), y.oneCell' = true := by
  obtain ⟨a, n, c, rfl⟩ := hv
  intro y hy
  simp only [List.mem_cons, List.not_mem_nil, or_false] at hy
  rcases hy with rfl | rfl | rfl <;> rfl
theorem none_ok {res : Option (T × S)} {r : Nat} {w w' : World} {q : S} (h : res = none) (hR : Blk w' r tR [.string (by8 q)]) (hK : Keeps (fun k => k = r) w w') : TPost res r w (.returned (.tuple #[.agg #[.string ⟨#[]⟩, .string ⟨#[]⟩, .slice none 0 0], .bool false])) w' := by
  subst h
  exact ⟨[], [], _, _, rfl, ⟨_, _, _, rfl⟩, hR, hK⟩
theorem load_blk' {ops : Array Oper} {rest : List Oper} {o : Oper} {a : Act} {w : World} {Q : Exit → Act → World → Prop} {b : Nat} {x : Operand} {cs : List Value} (hb : Blk w b tT cs) (hl : cs.length = 3)
    (hg : Region.wanted o (yielded ops a.tmps) = true) (ho : o.op = .load tT x) (hx : a.eval x = .pointer (some ⟨b, 0, none⟩)) (h : wpList Tryz.prog ops Q rest (a.put o.dst (.agg cs.toArray)) w) : wpList Tryz.prog ops Q (o :: rest) a w := by
  unfold wpList
  rw [if_pos hg]
  exact .inl (wp_load_row tT x ho b hx tT _ (0, 0) _ hb Tryz.underlying25 rfl (by rw [t_size]; simp [hl]) h)
theorem zT_one : ∀ v ∈ zT, v.oneCell' = true := sl_one [] [] (.slice none 0 0) ⟨_, _, _, rfl⟩
theorem St.len {f : Nat} {r0 : S} {i : Nat} {l : List Row} {q : S} (h : St f r0 i l q) : l.length = i := by cases h <;> rfl
theorem St.qlen {f : Nat} {r0 : S} {i : Nat} {l : List Row} {q : S} (h : St f r0 i l q) : q.length ≤ r0.length := by
  cases h with
  | zero => exact Nat.le_refl _
  | one a x q _ h => exact (rd_len h).1
  | two a b x y q1 q _ _ h h1 h2 =>
    have e1 := (rd_len h).1
    have e2 := (rd_len h2).1
    have e3 := congrArg List.length (hd_cons h1)
    rw [List.length_cons] at e3
    omega
theorem no_first {f : Nat} {s w r0 : S} {n : Nat} (hw : s.takeWhile low = w) (hr : s.dropWhile low = 40 :: r0) (hn : cnt w = n) (h0 : 0 < n) (h : rd f r0 = none) : rd (f + 1) s = none := by
  rcases cnt_le w with h1 | h1 | h1
  · omega
  · exact A1 hw hr h1 h
  · exact B1 hw hr h1 h
theorem no_shut {f : Nat} {s w r0 : S} {n : Nat} {l : List Row} {q : S} (hw : s.takeWhile low = w) (hr : s.dropWhile low = 40 :: r0) (hn : cnt w = n) (h0 : 0 < n) (hst : St f r0 n l q) (h : hd 41 q = false) : rd (f + 1) s = none := by
  cases hst with
  | zero => omega
  | one a x q _ h1 => exact A2 hw hr hn h1 h
  | two a b x y q1 q _ _ h1 h2 h3 => exact B4 hw hr hn h1 h2 h3 h
theorem yes {f : Nat} {s w r0 : S} {n : Nat} {l : List Row} {q : S} (hw : s.takeWhile low = w) (hr : s.dropWhile low = 40 :: r0) (hn : cnt w = n) (h0 : 0 < n) (hst : St f r0 n l q) (h : hd 41 q = true) :
    ∃ t, rd (f + 1) s = some (t, tl 41 q) ∧ kd t = w ∧ txs (bl w l) = kids (cn lt t) ∧ wt w (txs (bl w l)) = txt (cn lt t) := by
  cases hst with
  | zero => omega
  | one a x q hx h1 => exact ⟨.one w a, A3 hw hr hn h1 h, rfl, bl_one hx⟩
  | two a b x y q1 q hx hy h1 h2 h3 => exact ⟨.two w a b, B5 hw hr hn h1 h2 h3 h, rfl, bl_two hx hy⟩
theorem termInfo' : (Tryz.prog.info? tT).map (fun i => (i.zero, i.size, i.bytes)) = some (some (.agg #[.string ⟨#[]⟩, .string ⟨#[]⟩, .slice none 0 0]), 3, 56) := termInfo
/-- a slice of one term, as it is laid for append -/
theorem lit_row (w : World) (x : Row) (hx : ∃ a n c, x.2.2 = .slice a n c) : PT (w.alloc (.cells #[.string (by8 x.1), .string (by8 x.2.1), x.2.2] tT)) (.slice (some ⟨w.heap.size, 0, none⟩) 1 1) [x] := by
  have h : Blk (w.alloc (.cells #[.string (by8 x.1), .string (by8 x.2.1), x.2.2] tT)) w.heap.size tT [.string (by8 x.1), .string (by8 x.2.1), x.2.2] := Blk.new w tT _
  refine ⟨⟨rfl, _, 1, rfl, Nat.le_refl _, by unfold maxLen; omega, .inr ⟨_, 0, rfl, h.lt, fun j hj => ?_, fun j hj => ?_⟩⟩, fun y hy => ?_⟩
  · have hj3 : j = 0 ∨ j = 1 ∨ j = 2 := by omega
    rw [Nat.zero_add]
    rcases hj3 with rfl | rfl | rfl
    · exact ⟨by rw [h.cell 0 _ rfl]; rfl, h.free 0⟩
    · exact ⟨by rw [h.cell 1 _ rfl]; rfl, h.free 1⟩
    · exact ⟨by rw [h.cell 2 _ rfl]; rfl, h.free 2⟩
  · have hj3 : j = 0 ∨ j = 1 ∨ j = 2 := by
      have : j < 1 * 3 := hj
      omega
    rw [Nat.zero_add]
    rcases hj3 with rfl | rfl | rfl
    · exact h.cell 0 _ rfl
    · exact h.cell 1 _ rfl
    · exact h.cell 2 _ rfl
  · have : y = x := by simpa using hy
    rw [this]; exact hx
theorem PT.keeps {w w' : World} {v : Value} {l : List Row} {F : Nat → Prop} (h : PT w v l) (hk : Keeps F w w') (hF : ∀ g, vblk v = some g → ¬ F g) : PT w' v l := ⟨h.sg.keeps hk hF, h.sl⟩
set_option maxHeartbeats 16000000 in
theorem term_step (f : Nat) (ih : TOk f) : TOk (f + 1) := by
  intro s r w hf hs hB
  have hsz : (by8 s).size ≤ 100000 := by rw [by8_size]; omega
  have hrw := hB.lt
  go_enter Tryz.func14, Tryz.ntmps14
  go_upto_region 1 with fail
  have NB : Blk (w.alloc (.cells zT.toArray tT)) w.heap.size tT zT := Blk.new w tT zT
  refine wp_gen (fun wx => Blk wx w.heap.size tT zT ∧ Blk wx r tR [.string (by8 s)] ∧ Below w.heap.size w wx) ⟨NB, hB.alloc _, below1 _ _⟩ ?_
  rintro w1 ⟨O2, R1, BW⟩
  clear NB
  have HW := word_ok (by8 s) hsz r w1 R1
  rw [by8_l] at HW
  obtain ⟨wd, hwd⟩ : ∃ wd, s.takeWhile low = wd := ⟨_, rfl⟩
  obtain ⟨r1, hr1⟩ : ∃ r1, s.dropWhile low = r1 := ⟨_, rfl⟩
  have HL : Hid (r1.length ≤ s.length ∧ wd.length ≤ s.length) := by
    have h := congrArg List.length (List.takeWhile_append_dropWhile (p := low) (l := s))
    rw [hwd, hr1, List.length_append] at h
    exact ⟨by omega, by omega⟩
  rw [hwd, hr1] at HW
  go_upto_region 2 with (go_at_call 26; refine HW.mono ?_; rintro e w2 ⟨rfl, R2, K2⟩)
  have HS := sign_ok (by8 r1) 40 r w2 R2
  rw [by8_l] at HS
  have KW : Keeps (fun k => k = r) w w2 := (Keeps.of_below (F := fun k => k = r) BW).trans K2 (fun _ _ h => h)
  have O2' := K2.blk O2 (by omega)
  clear HW K2 R2 O2 BW R1
  cases hb40 : hd 40 r1
  · rw [hb40, tl_false hb40] at HS
    have HRD := Lib.hid (rd_atom (f := f) hwd (by rw [hr1]; exact hb40))
    rw [hr1] at HRD
    have hwl : (by8 wd).size = wd.length := by8_size wd
    have hem := by8_empty wd
    have hvs : ∃ (a : Option Addr) (n c : Nat), Value.slice none 0 0 = .slice a n c := ⟨_, _, _, rfl⟩
    have ONE := sl_one kAtom wd (.slice none 0 0) hvs
    have fin : ∀ w3, Blk w3 r tR [.string (by8 r1)] → Keeps (fun k => k = r) w2 w3 → ∀ b : Bool, (b = decide (1 ≤ wd.length ∧ wd.length ≤ 16)) →
        TPost (rd (f + 1) s) r w (.returned (.tuple #[tmv kAtom wd (.slice none 0 0), .bool b])) (w3.setRow w.heap.size #[.string (by8 kAtom), .string (by8 wd), .slice none 0 0]) := fun w3 R3 K3 b hb => by
      have KZ := krow (KW.trans K3 (fun _ _ h => h)) w.heap.size #[.string (by8 kAtom), .string (by8 wd), .slice none 0 0] (fun h => by omega)
      have RZ := R3.farRow (show r ≠ w.heap.size by omega) #[.string (by8 kAtom), .string (by8 wd), .slice none 0 0]
      rw [HRD.out]
      by_cases hl : 1 ≤ wd.length ∧ wd.length ≤ 16
      · rw [if_pos hl, hb, decide_eq_true hl]
        exact ⟨_, [], rfl, PT.nil _, rfl, (fun g h => by simp [vblk] at h), RZ, KZ⟩
      · rw [if_neg hl, hb, decide_eq_false hl]
        exact ⟨_, _, _, _, rfl, hvs, RZ, KZ⟩
    have FIN := Lib.hid fin
    clear fin HRD hwd hr1
    go_upto_region 3 with (go_at_call 27; refine HS.mono ?_; rintro e w3 ⟨rfl, R3, K3⟩)
    have O3 := K3.blk O2' (by omega)
    rcases Nat.eq_zero_or_pos wd.length with h0 | h0
    · have hem2 : (by8 wd).toList.isEmpty = true := by rw [hem]; exact decide_eq_true h0
      have EB : Hid (false = decide (1 ≤ wd.length ∧ wd.length ≤ 16)) := (decide_eq_false (by omega)).symm
      clear hem h0
      go_wp2_with (refine store_blk (n := 3) (cs := [.string (by8 kAtom), .string (by8 wd), .slice none 0 0]) O3 t_size rfl rfl ONE rfl rfl rfl rfl ?_)
      exact ret_tm rfl (O3.setRow [.string (by8 kAtom), .string (by8 wd), .slice none 0 0]) rfl rfl rfl rfl (FIN.out w3 R3 K3 false EB.out)
    · have hem2 : (by8 wd).toList.isEmpty = false := by rw [hem]; exact decide_eq_false (by omega)
      have EB : Hid (decide ((wd.length : Int) ≤ 16) = decide (1 ≤ wd.length ∧ wd.length ≤ 16)) := decide_eq_decide.2 ⟨fun h => by omega, fun h => by omega⟩
      clear hem
      go_wp2_with (refine store_blk (n := 3) (cs := [.string (by8 kAtom), .string (by8 wd), .slice none 0 0]) O3 t_size rfl rfl ONE rfl rfl rfl rfl ?_)
      exact ret_tm rfl (O3.setRow [.string (by8 kAtom), .string (by8 wd), .slice none 0 0]) rfl rfl rfl rfl (FIN.out w3 R3 K3 _ EB.out)
  · have hcons := hd_cons hb40
    obtain ⟨r0, hr0⟩ : ∃ r0, tl 40 r1 = r0 := ⟨_, rfl⟩
    rw [hb40, hr0] at HS
    rw [hr0] at hcons
    rw [hcons] at hr1
    have L0 : r0.length < s.length := by have := HL.out.1; rw [hcons, List.length_cons] at this; omega
    have HWD := Lib.hid hwd
    have HR1 := Lib.hid hr1
    have L1 := HL.out.2
    clear hwd hr1 hcons hr0 HL hb40
    go_upto_region 4 with (go_at_call 27; refine HS.mono ?_; rintro e w3 ⟨rfl, R3, K3⟩)
    have O3 := K3.blk O2' (by omega)
    have KW3 := KW.trans K3 (fun _ _ h => h)
    clear HS O2' KW K3
    have HN := cnt_le wd
    have HCN : Hid (∃ n, cnt wd = n) := ⟨_, rfl⟩
    have CT := count_ok wd
    obtain ⟨n, hn⟩ := HCN.out
    have HN' := Lib.hid hn
    rw [hn] at HN CT
    clear hn HCN
    have hn2 : n ≤ 2 := by omega
    go_upto_region 7 with (go_at_call 28; refine (CT _).mono ?_; rintro e w4 ⟨rfl, rfl⟩)
    obtain ⟨j0, hj, hj0, hj1, hj2⟩ := info_parts termInfo
    have J := Lib.hid hj
    have J0 := Lib.hid hj0
    have J1 := Lib.hid hj1
    have J2 := Lib.hid hj2
    clear hj hj0 hj1 hj2
    go_loopw [6, 27] (fun v6 v27 wr => ∃ (i : Nat) (l : List Row) (q : S), i ≤ n ∧ v27 = .int .i64 i ∧ PT wr v6 l ∧ (∀ g, vblk v6 = some g → w.heap.size < g) ∧ St f r0 i l q ∧ Blk wr r tR [.string (by8 q)] ∧ Blk wr w.heap.size tT zT ∧ Keeps (fun k => k = r) w wr) (fun _ v27 _ => n - (intOf v27).toNat)
    case atStart => exact ⟨0, [], r0, by omega, rfl, PT.nil _, (fun g h => by simp [vblk] at h), St.zero, R3, O3, KW3⟩
    case round =>
      clear R3 O3 KW3
      obtain ⟨i, l, q, hi, rfl, hPT, hfr, hst, hR, hO, hK⟩ := hrel
      by_cases hgo : i < n
      · cases hst with
        | zero =>
          go_wp2_with fail
          refine (ih r0 r wr (by omega) (by omega) hR).mono ?_
          intro e w6 hpost
          cases hrd : rd f r0 with
          | none =>
            rw [hrd] at hpost
            obtain ⟨k6, t6, v6, q6, rfl, hsl6, R6, K6⟩ := hpost
            have ONE6 := sl_one k6 t6 v6 hsl6
            have O6 := K6.blk hO (by omega)
            have KK := hK.trans K6 (fun _ _ h => h)
            have R6a := R6.alloc (.cells zT.toArray tT)
            have O6a := O6.alloc (.cells zT.toArray tT)
            have HN6 := Lib.hid (no_first HWD.out HR1.out HN'.out (by omega) hrd)
            clear R6 hrd
            go_upto_region 12 with (refine store_blk (n := 3) (cs := [.string (by8 k6), .string (by8 t6), v6]) (Blk.new w6 tT zT) t_size rfl rfl ONE6 rfl rfl rfl rfl ?_)
            have sz6 : w.heap.size < w6.heap.size := O6.lt
            have R7 := R6a.farRow (show r ≠ w6.heap.size by omega) #[.string (by8 k6), .string (by8 t6), v6]
            have O7 := O6a.farRow (show w.heap.size ≠ w6.heap.size by omega) #[.string (by8 k6), .string (by8 t6), v6]
            have K7 := krow (KK.alloc (.cells zT.toArray tT)) w6.heap.size #[.string (by8 k6), .string (by8 t6), v6] (fun h => by omega)
            have FIN := none_ok HN6.out (R7.farRow (show r ≠ w.heap.size by omega) #[.string ⟨#[]⟩, .string ⟨#[]⟩, .slice none 0 0]) (krow K7 w.heap.size #[.string ⟨#[]⟩, .string ⟨#[]⟩, .slice none 0 0] (fun h => by omega))
            clear R6a O6a KK K7 R7
            go_wp2_with (refine store_blk (n := 3) (cs := zT) O7 t_size rfl rfl zT_one rfl rfl rfl rfl ?_)
            exact ret_tm rfl (O7.setRow zT) rfl rfl rfl rfl FIN
          | some tq =>
            obtain ⟨t, q6⟩ := tq
            rw [hrd] at hpost
            obtain ⟨v6, l6, rfl, hpt6, _, _, R6, K6⟩ := hpost
            have hsl6 : ∃ a n c, v6 = .slice a n c := by
              obtain ⟨_, a, c, e, _⟩ := hpt6.sg
              exact ⟨a, _, c, e⟩
            have ONE6 := sl_one (kd t) (txt (cn lt t)) v6 hsl6
            have O6 := K6.blk hO (by omega)
            have KK := hK.trans K6 (fun _ _ h => h)
            have sz6 : w.heap.size < w6.heap.size := O6.lt
            have P6 := hPT.keeps K6 (fun g hg e => by have := hfr g hg; omega)
            have HST := Lib.hid (St.one (f := f) (r0 := r0) t (kd t, txt (cn lt t), v6) q6 rfl hrd)
            clear hpt6 hrd
            generalize kd t = kt at *
            generalize txt (cn lt t) = tt at *
            go_upto_region 12 with (refine store_blk (n := 3) (cs := [.string (by8 kt), .string (by8 tt), v6]) (Blk.new w6 tT zT) t_size rfl rfl ONE6 rfl rfl rfl rfl ?_)
            refine wp_gen (fun wx => Blk wx w6.heap.size tT [.string (by8 kt), .string (by8 tt), v6] ∧ PT wx u6 ([] : List Row) ∧ Blk wx r tR [.string (by8 q6)] ∧ Blk wx w.heap.size tT zT ∧ Keeps (fun k => k = r) w wx) ⟨(Blk.new w6 tT zT).setRow _, (P6.below (below1 w6 _)).row (fun g hg => by have := P6.sg.lt hg; omega) _, (R6.alloc _).farRow (by have := R6.lt; omega) _, (O6.alloc _).farRow (by omega) _, krow (KK.alloc _) _ _ (fun h => by omega)⟩ ?_
            clear P6 R6 O6 KK K6
            rintro w7 ⟨N7, P7, R7, O7, K7⟩
            generalize w6.heap.size = c8 at *
            have hlit := lit_row w7 (kt, tt, v6) hsl6
            have P7a := P7.below (below1 w7 (.cells #[.string (by8 kt), .string (by8 tt), v6] tT))
            have m1 : ([] : List Row).length + 1 ≤ maxLen := by unfold maxLen; simp
            have m2 : (([] : List Row).length + 1) * 56 ≤ 140737488355328 := by simp
            have ONEL := hlit.one
            have SGL := hlit.sg
            have SGP := P7a.sg
            have U8 : (Tryz.prog.info? tT).map (·.size) = some 3 := t_size
            go_wp2_with (first | refine load_blk' N7 rfl rfl rfl rfl ?_ | (at_builtin; refine wpList_append_any _ rfl (.tmp 46) (.tmp 48) tTs rfl tT j0 (.agg #[.string ⟨#[]⟩, .string ⟨#[]⟩, .slice none 0 0]) 3 56 Tryz.underlying23 J.out J0.out J1.out J2.out rfl (by decide) _ ([] : List Row).length (tc ([] : List Row)) rfl SGP _ 1 (tc [(kt, tt, v6)]) rfl SGL ONEL m1 m2 ?grow))
            case grow =>
              intro v8 w8 hs8 hv8 hk8
              have hlen8 : ([] : List Row).length + 1 = (([] : List Row) ++ [(kt, tt, v6)]).length := by simp
              rw [← tc_app] at hs8
              have hs8' : Sg w8 3 v8 (([] : List Row) ++ [(kt, tt, v6)]).length (tc (([] : List Row) ++ [(kt, tt, v6)])) := by rw [← hlen8]; exact hs8
              have P8 : PT w8 v8 (([] : List Row) ++ [(kt, tt, v6)]) := ⟨hs8', fun y hy => by
                rcases List.mem_append.1 hy with h | h
                · exact P7.sl y h
                · have : y = (kt, tt, v6) := by simpa using h
                  rw [this]; exact hsl6⟩
              have sz7 : w.heap.size < w7.heap.size := O7.lt
              have F8 : ∀ g, vblk v8 = some g → w.heap.size < g := fun g hg => by
                rcases hv8 g hg with h | h
                · exact hfr g h
                · omega
              have R8 := hk8.blk (R7.alloc _) (fun e => by have := hfr r e; omega)
              have O8 := hk8.blk (O7.alloc _) (fun e => by have := hfr _ e; omega)
              have K8 := (K7.alloc _).trans hk8 (fun k hk e => by have := hfr k e; omega)
              have R9 := Lib.hid (And.intro P8 (And.intro F8 (And.intro R8 (And.intro O8 K8))))
              clear hs8 hs8' hv8 hk8 P8 F8 R8 O8 K8 P7 R7 O7 K7 hlit P7a SGL SGP N7
              go_wp2_with fail
              go_roundw
              case rel => exact ⟨1, _, q6, by omega, by go_num, R9.out.1, R9.out.2.1, HST.out, R9.out.2.2.1, R9.out.2.2.2.1, R9.out.2.2.2.2⟩
              case measure => simp [intOf]; omega
        | one a x q hx hra =>
          have hq := (rd_len hra).1
          have HS := sign_ok (by8 q) 44 r wr hR
          rw [by8_l] at HS
          cases hb44 : hd 44 q
          · rw [hb44, tl_false hb44] at HS
            have HN6 := Lib.hid (B2 (f := f) HWD.out HR1.out (by rw [HN'.out]; omega) hra hb44)
            go_upto_region 10 with (go_at_call 27; refine HS.mono ?_; rintro e w5 ⟨rfl, R5, K5⟩)
            have O5 := K5.blk hO (by omega)
            have K5' := hK.trans K5 (fun _ _ h => h)
            have FIN := none_ok HN6.out (R5.farRow (show r ≠ w.heap.size by omega) #[.string ⟨#[]⟩, .string ⟨#[]⟩, .slice none 0 0]) (krow K5' w.heap.size #[.string ⟨#[]⟩, .string ⟨#[]⟩, .slice none 0 0] (fun h => by omega))
            clear R5 K5 K5'
            go_wp2_with (refine store_blk (n := 3) (cs := zT) O5 t_size rfl rfl zT_one rfl rfl rfl rfl ?_)
            exact ret_tm rfl (O5.setRow zT) rfl rfl rfl rfl FIN
          · rw [hb44] at HS
            have e44 := congrArg List.length (hd_cons hb44)
            rw [List.length_cons] at e44
            go_upto_region 11 with (go_at_call 27; refine HS.mono ?_; rintro e w5 ⟨rfl, R5, K5⟩)
            replace hPT := hPT.keeps K5 (fun g hg e => by have := hfr g hg; omega)
            replace hO := K5.blk hO (by omega)
            replace hK := hK.trans K5 (fun _ _ h => h)
            have hR := R5
            clear K5 R5 HS
            go_wp2_with fail
            refine (ih (tl 44 q) r w5 (by omega) (by omega) hR).mono ?_
            intro e w6 hpost
            cases hrd : rd f (tl 44 q) with
            | none =>
              rw [hrd] at hpost
              obtain ⟨k6, t6, v6, q6, rfl, hsl6, R6, K6⟩ := hpost
              have ONE6 := sl_one k6 t6 v6 hsl6
              have O6 := K6.blk hO (by omega)
              have KK := hK.trans K6 (fun _ _ h => h)
              have R6a := R6.alloc (.cells zT.toArray tT)
              have O6a := O6.alloc (.cells zT.toArray tT)
              have HN6 := Lib.hid (B3 HWD.out HR1.out (by rw [HN'.out]; omega) hra hb44 hrd)
              clear R6 hrd
              go_upto_region 12 with (refine store_blk (n := 3) (cs := [.string (by8 k6), .string (by8 t6), v6]) (Blk.new w6 tT zT) t_size rfl rfl ONE6 rfl rfl rfl rfl ?_)
              have sz6 : w.heap.size < w6.heap.size := O6.lt
              have R7 := R6a.farRow (show r ≠ w6.heap.size by omega) #[.string (by8 k6), .string (by8 t6), v6]
              have O7 := O6a.farRow (show w.heap.size ≠ w6.heap.size by omega) #[.string (by8 k6), .string (by8 t6), v6]
              have K7 := krow (KK.alloc (.cells zT.toArray tT)) w6.heap.size #[.string (by8 k6), .string (by8 t6), v6] (fun h => by omega)
              have FIN := none_ok HN6.out (R7.farRow (show r ≠ w.heap.size by omega) #[.string ⟨#[]⟩, .string ⟨#[]⟩, .slice none 0 0]) (krow K7 w.heap.size #[.string ⟨#[]⟩, .string ⟨#[]⟩, .slice none 0 0] (fun h => by omega))
              clear R6a O6a KK K7 R7
              go_wp2_with (refine store_blk (n := 3) (cs := zT) O7 t_size rfl rfl zT_one rfl rfl rfl rfl ?_)
              exact ret_tm rfl (O7.setRow zT) rfl rfl rfl rfl FIN
            | some tq =>
              obtain ⟨t, q6⟩ := tq
              rw [hrd] at hpost
              obtain ⟨v6, l6, rfl, hpt6, _, _, R6, K6⟩ := hpost
              have hsl6 : ∃ a n c, v6 = .slice a n c := by
                obtain ⟨_, a, c, e, _⟩ := hpt6.sg
                exact ⟨a, _, c, e⟩
              have ONE6 := sl_one (kd t) (txt (cn lt t)) v6 hsl6
              have O6 := K6.blk hO (by omega)
              have KK := hK.trans K6 (fun _ _ h => h)
              have sz6 : w.heap.size < w6.heap.size := O6.lt
              have P6 := hPT.keeps K6 (fun g hg e => by have := hfr g hg; omega)
              have HST := Lib.hid (St.two (f := f) (r0 := r0) a t x (kd t, txt (cn lt t), v6) q q6 hx rfl hra hb44 hrd)
              clear hpt6 hrd
              generalize kd t = kt at *
              generalize txt (cn lt t) = tt at *
              go_upto_region 12 with (refine store_blk (n := 3) (cs := [.string (by8 kt), .string (by8 tt), v6]) (Blk.new w6 tT zT) t_size rfl rfl ONE6 rfl rfl rfl rfl ?_)
              refine wp_gen (fun wx => Blk wx w6.heap.size tT [.string (by8 kt), .string (by8 tt), v6] ∧ PT wx u6 [x] ∧ Blk wx r tR [.string (by8 q6)] ∧ Blk wx w.heap.size tT zT ∧ Keeps (fun k => k = r) w wx) ⟨(Blk.new w6 tT zT).setRow _, (P6.below (below1 w6 _)).row (fun g hg => by have := P6.sg.lt hg; omega) _, (R6.alloc _).farRow (by have := R6.lt; omega) _, (O6.alloc _).farRow (by omega) _, krow (KK.alloc _) _ _ (fun h => by omega)⟩ ?_
              clear P6 R6 O6 KK K6
              rintro w7 ⟨N7, P7, R7, O7, K7⟩
              generalize w6.heap.size = c8 at *
              have hlit := lit_row w7 (kt, tt, v6) hsl6
              have P7a := P7.below (below1 w7 (.cells #[.string (by8 kt), .string (by8 tt), v6] tT))
              have m1 : [x].length + 1 ≤ maxLen := by unfold maxLen; simp
              have m2 : ([x].length + 1) * 56 ≤ 140737488355328 := by simp
              have ONEL := hlit.one
              have SGL := hlit.sg
              have SGP := P7a.sg
              have U8 : (Tryz.prog.info? tT).map (·.size) = some 3 := t_size
              go_wp2_with (first | refine load_blk' N7 rfl rfl rfl rfl ?_ | (at_builtin; refine wpList_append_any _ rfl (.tmp 46) (.tmp 48) tTs rfl tT j0 (.agg #[.string ⟨#[]⟩, .string ⟨#[]⟩, .slice none 0 0]) 3 56 Tryz.underlying23 J.out J0.out J1.out J2.out rfl (by decide) _ [x].length (tc [x]) rfl SGP _ 1 (tc [(kt, tt, v6)]) rfl SGL ONEL m1 m2 ?grow))
              case grow =>
                intro v8 w8 hs8 hv8 hk8
                have hlen8 : [x].length + 1 = ([x] ++ [(kt, tt, v6)]).length := by simp
                rw [← tc_app] at hs8
                have hs8' : Sg w8 3 v8 ([x] ++ [(kt, tt, v6)]).length (tc ([x] ++ [(kt, tt, v6)])) := by rw [← hlen8]; exact hs8
                have P8 : PT w8 v8 ([x] ++ [(kt, tt, v6)]) := ⟨hs8', fun y hy => by
                  rcases List.mem_append.1 hy with h | h
                  · exact P7.sl y h
                  · have : y = (kt, tt, v6) := by simpa using h
                    rw [this]; exact hsl6⟩
                have sz7 : w.heap.size < w7.heap.size := O7.lt
                have F8 : ∀ g, vblk v8 = some g → w.heap.size < g := fun g hg => by
                  rcases hv8 g hg with h | h
                  · exact hfr g h
                  · omega
                have R8 := hk8.blk (R7.alloc _) (fun e => by have := hfr r e; omega)
                have O8 := hk8.blk (O7.alloc _) (fun e => by have := hfr _ e; omega)
                have K8 := (K7.alloc _).trans hk8 (fun k hk e => by have := hfr k e; omega)
                have R9 := Lib.hid (And.intro P8 (And.intro F8 (And.intro R8 (And.intro O8 K8))))
                clear hs8 hs8' hv8 hk8 P8 F8 R8 O8 K8 P7 R7 O7 K7 hlit P7a SGL SGP N7
                go_wp2_with fail
                go_roundw
                case rel => exact ⟨2, _, q6, by omega, by go_num, R9.out.1, R9.out.2.1, HST.out, R9.out.2.2.1, R9.out.2.2.2.1, R9.out.2.2.2.2⟩
                case measure => simp [intOf]; omega
        | two => omega
      · have hin : i = n := by omega
        subst hin
        rcases Nat.eq_zero_or_pos i with h0 | h0
        · have HN6 := Lib.hid (rd_zero (f := f) HWD.out HR1.out (HN'.out.trans h0))
          have FIN := none_ok HN6.out (hR.farRow (show r ≠ w.heap.size by omega) #[.string ⟨#[]⟩, .string ⟨#[]⟩, .slice none 0 0]) (krow hK w.heap.size #[.string ⟨#[]⟩, .string ⟨#[]⟩, .slice none 0 0] (fun h => by omega))
          have hz : ((i : Int) == 0) = true := by rw [beq_iff_eq]; omega
          clear hK hR
          go_wp2_with (refine store_blk (n := 3) (cs := zT) hO t_size rfl rfl zT_one rfl rfl rfl rfl ?_)
          exact ret_tm rfl (hO.setRow zT) rfl rfl rfl rfl FIN
        · have hz : ((i : Int) == 0) = false := by rw [beq_eq_false_iff_ne]; omega
          have HS := sign_ok (by8 q) 41 r wr hR
          rw [by8_l] at HS
          cases hb41 : hd 41 q
          · rw [hb41, tl_false hb41] at HS
            have HN6 := Lib.hid (no_shut (f := f) HWD.out HR1.out HN'.out h0 hst hb41)
            go_upto_region 17 with (go_at_call 27; refine HS.mono ?_; rintro e w5 ⟨rfl, R5, K5⟩)
            have O5 := K5.blk hO (by omega)
            have K5' := hK.trans K5 (fun _ _ h => h)
            have FIN := none_ok HN6.out (R5.farRow (show r ≠ w.heap.size by omega) #[.string ⟨#[]⟩, .string ⟨#[]⟩, .slice none 0 0]) (krow K5' w.heap.size #[.string ⟨#[]⟩, .string ⟨#[]⟩, .slice none 0 0] (fun h => by omega))
            clear R5 K5 K5'
            go_wp2_with (refine store_blk (n := 3) (cs := zT) O5 t_size rfl rfl zT_one rfl rfl rfl rfl ?_)
            exact ret_tm rfl (O5.setRow zT) rfl rfl rfl rfl FIN
          · rw [hb41] at HS
            obtain ⟨t, ht, hkd, htx, hwt⟩ := yes (f := f) HWD.out HR1.out HN'.out h0 hst hb41
            have hll := hst.len
            have hn12 : l.length = 1 ∨ l.length = 2 := by omega
            have hsh : wd = kShare → l.length = 2 := fun e => by
              have h := HN'.out
              rw [e] at h
              rw [hll, ← h]
              decide
            have hjl : (Tm.join (txs (bl wd l))).length ≤ 100000 := by
              have h1 := (rd_len ht).2.1
              have h2 := cn_len lt t
              rw [← hwt] at h2
              unfold wt at h2
              simp only [List.length_append, List.length_cons, List.length_nil] at h2
              omega
            go_upto_region 18 with (go_at_call 27; refine HS.mono ?_; rintro e w5 ⟨rfl, R5, K5⟩)
            have P5 := hPT.keeps K5 (fun g hg e => by have := hfr g hg; omega)
            have BL := build_ok wd _ l w5 P5 hn12 hsh (by omega) hjl
            rw [hwt] at BL
            have O5 := K5.blk hO (by omega)
            have K5' := hK.trans K5 (fun _ _ h => h)
            have H5 := Lib.hid (And.intro R5 (And.intro K5' (And.intro ht (And.intro hkd htx))))
            have sz5 : w.heap.size < w5.heap.size := O5.lt
            clear R5 K5 K5' ht hkd htx hwt P5 HS
            go_wp2_with fail
            refine BL.mono ?_
            rintro e w6 ⟨v6, rfl, P6, F6, hb6⟩
            have hsl6 : ∃ a n c, v6 = .slice a n c := by
              obtain ⟨_, a, c, e, _⟩ := P6.sg
              exact ⟨a, _, c, e⟩
            have ONE6 := sl_one wd (txt (cn lt t)) v6 hsl6
            have O6 := O5.below hb6 O5.lt
            have R6 := H5.out.1.below hb6 H5.out.1.lt
            have K6 := H5.out.2.1.trans (Keeps.of_below (F := fun k => k = r) hb6) (fun _ _ h => h)
            have FIN : TPost (rd (f + 1) s) r w (.returned (.tuple #[.agg #[.string (by8 wd), .string (by8 (txt (cn lt t))), v6], .bool true])) (w6.setRow w.heap.size #[.string (by8 wd), .string (by8 (txt (cn lt t))), v6]) := by
              rw [H5.out.2.2.1]
              refine ⟨v6, bl wd l, ?_, P6.row (fun g hg => by have := F6 g hg; omega) _, H5.out.2.2.2.2, (fun g hg => by have := F6 g hg; omega), R6.farRow (by omega) _, krow K6 _ _ (fun h => by omega)⟩
              rw [H5.out.2.2.2.1]
              rfl
            clear hb6
            go_wp2_with (refine store_blk (n := 3) (cs := [.string (by8 wd), .string (by8 (txt (cn lt t))), v6]) O6 t_size rfl rfl ONE6 rfl rfl rfl rfl ?_)
            exact ret_tm rfl (O6.setRow [.string (by8 wd), .string (by8 (txt (cn lt t))), v6]) rfl rfl rfl rfl FIN
theorem term_all : ∀ f, TOk f
  | 0 => fun _ _ _ hf => absurd hf (Nat.not_lt_zero _)
  | f + 1 => term_step f (term_all f)
end Tv
end Go.Proofs.YtkhdhiddhnmdkaaGreatDoor
