/-
message.fields: the next number, text, names, word. (Printed by tools/mf_gen.py.)
wire.Name and message.names of names that may be.
message: find, Fields.
-/
import Derived.Shelf.RegionOpenPlain
import Derived.Deep.MidRow
import Derived.Test.YtcbkbjpdfanjpaaGreatDoorPk18
import Derived.Test.YtcbkbjpdfanjpaaGreatDoorPk03
import Derived.Test.YtcbkbjpdfanjpaaGreatDoorPk22
import Derived.Test.YtcbkbjpdfanjpaaGreatDoorPk07
import Derived.Test.YtcbkbjpdfanjpaaGreatDoorPk20
namespace Go.Proofs.YtcbkbjpdfanjpaaGreatDoor
open Go.RowKit
set_option maxRecDepth 100000
namespace Mg
abbrev S := List UInt8
abbrev tM : TypeId := 49
abbrev tF : TypeId := 84
abbrev tR : TypeId := 46
theorem infoOf {t : TypeId} (h : (Tryz.prog.info? t).map (fun i => i.size) = some 1) : ∃ i, Tryz.prog.info? t = some i ∧ i.size = 1 := by
  cases hi : Tryz.prog.info? t with
  | none => rw [hi] at h; cases h
  | some i =>
    rw [hi] at h
    simp only [Option.map_some, Option.some.injEq] at h
    exact ⟨i, rfl, h⟩
theorem infou : ∃ i, Tryz.prog.info? 75 = some i ∧ i.size = 1 := infoOf (by kernel_rfl)
set_option maxHeartbeats 2000000 in
theorem fu_ok (F : Nat → Prop) (f : Nat) (hF : F f) (v0 v2 v3 v4 : Value) (a : Option Addr) (n c : Nat) (x : Value) (xs : List Value) (w : World) (h : Blk w f tF [v0, .slice a (n + 1) c, v2, v3, v4]) (hs : Rs F w a (n + 1) c (x :: xs)) (_hn : n < 1000000) :
    Calls Tryz.prog 35 #[.pointer (some ⟨f, 0, none⟩)] w fun e w' => e = .returned x ∧ ∃ a', Blk w' f tF [v0, .slice a' n (c - 1), v2, v3, v4] ∧ Rs F w' a' n (c - 1) xs ∧ Keeps (fun k => k = f) w w' := by
  obtain ⟨i, hi, h1⟩ := infou
  obtain ⟨a', hr, hs'⟩ := hs.tail Tryz.underlying41 hi h1
  obtain ⟨g, off, rfl, hg, hgF, -, hc⟩ := hs.at (i := 0) rfl
  have hc0 : w.cell? ⟨g, off, none⟩ = some x := hc
  have cp := h.cell 1 _ rfl
  have fp := h.free 1
  have HB := Lib.hid (h.set 1 (.slice a' n (c - 1)))
  have HS := Lib.hid (hs'.keeps ((Keeps.refl (fun k => k = f) w).set f 1 (.slice a' n (c - 1)) (fun _ => rfl)) (fun g _ e => by subst e; exact hF))
  have HK := Lib.hid ((Keeps.refl (fun k => k = f) w).set f 1 (.slice a' n (c - 1)) (fun _ => rfl))
  have HR := Lib.hid hr
  clear hr hs' hs h hi h1 hc
  go_enter Tryz.func35, Tryz.ntmps35
  go_wp2_with (refine wpList_tail HR.out rfl rfl rfl ?_)
  go_ret
  exact ⟨rfl, a', HB.out, HS.out, HK.out⟩
theorem infos : ∃ i, Tryz.prog.info? 9 = some i ∧ i.size = 1 := infoOf (by kernel_rfl)
set_option maxHeartbeats 2000000 in
theorem fs_ok (F : Nat → Prop) (f : Nat) (hF : F f) (v0 v1 v3 v4 : Value) (a : Option Addr) (n c : Nat) (x : Value) (xs : List Value) (w : World) (h : Blk w f tF [v0, v1, .slice a (n + 1) c, v3, v4]) (hs : Rs F w a (n + 1) c (x :: xs)) (_hn : n < 1000000) :
    Calls Tryz.prog 39 #[.pointer (some ⟨f, 0, none⟩)] w fun e w' => e = .returned x ∧ ∃ a', Blk w' f tF [v0, v1, .slice a' n (c - 1), v3, v4] ∧ Rs F w' a' n (c - 1) xs ∧ Keeps (fun k => k = f) w w' := by
  obtain ⟨i, hi, h1⟩ := infos
  obtain ⟨a', hr, hs'⟩ := hs.tail Tryz.underlying42 hi h1
  obtain ⟨g, off, rfl, hg, hgF, -, hc⟩ := hs.at (i := 0) rfl
  have hc0 : w.cell? ⟨g, off, none⟩ = some x := hc
  have cp := h.cell 2 _ rfl
  have fp := h.free 2
  have HB := Lib.hid (h.set 2 (.slice a' n (c - 1)))
  have HS := Lib.hid (hs'.keeps ((Keeps.refl (fun k => k = f) w).set f 2 (.slice a' n (c - 1)) (fun _ => rfl)) (fun g _ e => by subst e; exact hF))
  have HK := Lib.hid ((Keeps.refl (fun k => k = f) w).set f 2 (.slice a' n (c - 1)) (fun _ => rfl))
  have HR := Lib.hid hr
  clear hr hs' hs h hi h1 hc
  go_enter Tryz.func39, Tryz.ntmps39
  go_wp2_with (refine wpList_tail HR.out rfl rfl rfl ?_)
  go_ret
  exact ⟨rfl, a', HB.out, HS.out, HK.out⟩
theorem infon : ∃ i, Tryz.prog.info? 42 = some i ∧ i.size = 1 := infoOf (by kernel_rfl)
set_option maxHeartbeats 2000000 in
theorem fn_ok (F : Nat → Prop) (f : Nat) (hF : F f) (v0 v1 v2 v4 : Value) (a : Option Addr) (n c : Nat) (x : Value) (xs : List Value) (w : World) (h : Blk w f tF [v0, v1, v2, .slice a (n + 1) c, v4]) (hs : Rs F w a (n + 1) c (x :: xs)) (_hn : n < 1000000) :
    Calls Tryz.prog 41 #[.pointer (some ⟨f, 0, none⟩)] w fun e w' => e = .returned x ∧ ∃ a', Blk w' f tF [v0, v1, v2, .slice a' n (c - 1), v4] ∧ Rs F w' a' n (c - 1) xs ∧ Keeps (fun k => k = f) w w' := by
  obtain ⟨i, hi, h1⟩ := infon
  obtain ⟨a', hr, hs'⟩ := hs.tail Tryz.underlying43 hi h1
  obtain ⟨g, off, rfl, hg, hgF, -, hc⟩ := hs.at (i := 0) rfl
  have hc0 : w.cell? ⟨g, off, none⟩ = some x := hc
  have cp := h.cell 3 _ rfl
  have fp := h.free 3
  have HB := Lib.hid (h.set 3 (.slice a' n (c - 1)))
  have HS := Lib.hid (hs'.keeps ((Keeps.refl (fun k => k = f) w).set f 3 (.slice a' n (c - 1)) (fun _ => rfl)) (fun g _ e => by subst e; exact hF))
  have HK := Lib.hid ((Keeps.refl (fun k => k = f) w).set f 3 (.slice a' n (c - 1)) (fun _ => rfl))
  have HR := Lib.hid hr
  clear hr hs' hs h hi h1 hc
  go_enter Tryz.func41, Tryz.ntmps41
  go_wp2_with (refine wpList_tail HR.out rfl rfl rfl ?_)
  go_ret
  exact ⟨rfl, a', HB.out, HS.out, HK.out⟩
theorem infob : ∃ i, Tryz.prog.info? 4 = some i ∧ i.size = 1 := infoOf (by kernel_rfl)
set_option maxHeartbeats 2000000 in
theorem fb_ok (F : Nat → Prop) (f : Nat) (hF : F f) (v0 v1 v2 v3 : Value) (a : Option Addr) (n c : Nat) (x : Value) (xs : List Value) (w : World) (h : Blk w f tF [v0, v1, v2, v3, .slice a (n + 1) c]) (hs : Rs F w a (n + 1) c (x :: xs)) (_hn : n < 1000000) :
    Calls Tryz.prog 37 #[.pointer (some ⟨f, 0, none⟩)] w fun e w' => e = .returned x ∧ ∃ a', Blk w' f tF [v0, v1, v2, v3, .slice a' n (c - 1)] ∧ Rs F w' a' n (c - 1) xs ∧ Keeps (fun k => k = f) w w' := by
  obtain ⟨i, hi, h1⟩ := infob
  obtain ⟨a', hr, hs'⟩ := hs.tail Tryz.underlying44 hi h1
  obtain ⟨g, off, rfl, hg, hgF, -, hc⟩ := hs.at (i := 0) rfl
  have hc0 : w.cell? ⟨g, off, none⟩ = some x := hc
  have cp := h.cell 4 _ rfl
  have fp := h.free 4
  have HB := Lib.hid (h.set 4 (.slice a' n (c - 1)))
  have HS := Lib.hid (hs'.keeps ((Keeps.refl (fun k => k = f) w).set f 4 (.slice a' n (c - 1)) (fun _ => rfl)) (fun g _ e => by subst e; exact hF))
  have HK := Lib.hid ((Keeps.refl (fun k => k = f) w).set f 4 (.slice a' n (c - 1)) (fun _ => rfl))
  have HR := Lib.hid hr
  clear hr hs' hs h hi h1 hc
  go_enter Tryz.func37, Tryz.ntmps37
  go_wp2_with (refine wpList_tail HR.out rfl rfl rfl ?_)
  go_ret
  exact ⟨rfl, a', HB.out, HS.out, HK.out⟩
end Mg
end Go.Proofs.YtcbkbjpdfanjpaaGreatDoor

namespace Go.Proofs.YtcbkbjpdfanjpaaGreatDoor
open Go.RowKit
set_option maxRecDepth 100000
namespace Mg
theorem name_parts {x : S} (h : Ms.name x = true) : x ≠ [] ∧ x.length ≤ 64 ∧ ∀ i, i < x.length → 33 ≤ (x.getD i 0).toNat ∧ (x.getD i 0).toNat ≤ 126 ∧ (x.getD i 0).toNat ≠ 44 := by
  unfold Ms.name at h
  rw [Bool.and_eq_true, Bool.and_eq_true, decide_eq_true_eq, decide_eq_true_eq] at h
  refine ⟨h.1.1, h.1.2, fun i hi => ?_⟩
  have := List.all_eq_true.1 h.2 (x.getD i 0) (by rw [List.getD_eq_getElem?_getD, List.getElem?_eq_getElem hi]; exact List.getElem_mem hi)
  unfold Ms.okN at this
  rw [Bool.and_eq_true, Bool.and_eq_true, decide_eq_true_eq, decide_eq_true_eq, decide_eq_true_eq] at this
  exact ⟨this.1.1, this.1.2, fun e => this.2 (UInt8.toNat_inj.1 e)⟩
set_option maxHeartbeats 2000000 in
theorem wname_ok (x : S) (h : Ms.name x = true) (w : World) : Calls Tryz.prog 83 #[.string (by8 x)] w fun e w' => e = .returned (.bool true) ∧ w = w' := by
  obtain ⟨h0, h1, h2⟩ := name_parts h
  obtain ⟨n, hn⟩ : ∃ n, n = x.length := ⟨_, rfl⟩
  have hsz : (by8 x).size = n := by rw [by8_size, hn]
  have hn0 : 0 < n := by rw [hn]; exact List.length_pos_iff.2 h0
  have hem : (by8 x).toList.isEmpty = false := by rw [by8_empty]; exact decide_eq_false (by omega)
  have HSI : Hid (∀ j (h : j < (by8 x).size), (((by8 x)[j]'h).toNat : Int) = ((x.getD j 0).toNat : Nat)) := Lib.hid fun j h => by rw [by_index]; rfl
  rw [← hn] at h1 h2
  have H2 := Lib.hid h2
  clear h0 h2 hn h
  go_enter Tryz.func83, Tryz.ntmps83
  go_upto_region 2 with fail
  go_loop [6] (fun v6 => ∃ i : Nat, v6 = .int .i64 i ∧ i ≤ n) (fun v => n - (intOf v).toNat)
  case atStart => exact ⟨0, rfl, Nat.zero_le _⟩
  case round =>
    obtain ⟨i, rfl, hi⟩ := hrel
    by_cases hgo : i < n
    · have hk : i < (by8 x).size := by omega
      have hby := HSI.out i hk
      obtain ⟨q1, q2, q3⟩ := H2.out i hgo
      generalize (x.getD i 0).toNat = y at *
      have q3' : ((y : Int) == 44) = false := by rw [beq_eq_false_iff_ne]; omega
      go_wp2_with fail
      go_round
      case rel => exact ⟨i + 1, by go_num, by omega⟩
      case measure => simp [intOf]; omega
    · obtain rfl : i = n := by omega
      have e64 : ((i : Int) ≤ 64) = True := eq_true (by omega)
      go_wp2_with fail
      go_ret
      exact ⟨rfl, rfl⟩
set_option maxHeartbeats 2000000 in
theorem names_ok (F : Nat → Prop) (a : Option Addr) (n c : Nat) (l : List S) (w : World) (h : Rs F w a n c (Spl.sv l)) (hl : l.length ≤ 6) (hw : ∀ x ∈ l, Ms.name x = true) :
    Calls Tryz.prog 71 #[.slice a n c] w fun e w' => e = .returned (.tuple #[.bool true, .bool true]) ∧ Below w.heap.size w w' := by
  have hjl := Ms.join_len 64 l (fun x hx => (name_parts (hw x hx)).2.1)
  have hj : (Tm.join l).length ≤ 390 := Nat.le_trans hjl (Nat.mul_le_mul_right _ hl)
  have J := Lib.hid (Spl.join_ok F a n c l w h (by omega) (by omega))
  have hsz : (by8 (Tm.join l)).size ≤ 390 := by rw [by8_size]; exact hj
  have hln : l.length = n := by rw [← Spl.sv_len]; exact h.len
  have HL := Lib.hid hln
  have HW := Lib.hid hw
  have HS := Lib.hid h
  have hn6 : n ≤ 6 := by omega
  generalize Tm.join l = T at *
  clear hjl hj h hl hln hw
  go_enter Tryz.func71, Tryz.ntmps71
  go_upto_region 2 with fail
  go_loop [8] (fun v => ∃ i : Nat, v = .int .i64 i ∧ i ≤ n) (fun v => n - (intOf v).toNat)
  case atStart => exact ⟨0, rfl, Nat.zero_le _⟩
  case round =>
    obtain ⟨i, rfl, hi⟩ := hrel
    by_cases hgo : i < n
    · have hil : i < l.length := by rw [HL.out]; exact hgo
      obtain ⟨x, hx⟩ : ∃ x, l[i]? = some x := ⟨_, List.getElem?_eq_getElem hil⟩
      have hx2 : (Spl.sv l)[i]? = some (.string (by8 x)) := by unfold Spl.sv; rw [List.getElem?_map, hx]; rfl
      obtain ⟨g, off, rfl, hg, -, -, hc⟩ := HS.out.at hx2
      have N := Lib.hid (fun w => wname_ok x (HW.out x (List.mem_of_getElem? hx)) w)
      clear hx hx2
      go_wp2_with (go_at_call 83; refine (N.out _).mono ?_; rintro e w2 ⟨rfl, rfl⟩)
      go_round
      case rel => exact ⟨i + 1, by go_num, by omega⟩
      case measure => simp [intOf]; omega
    · obtain rfl : i = n := by omega
      have e49 : (((by8 T).size : Int) ≤ 4096) = True := eq_true (by omega)
      go_wp2_with (go_at_call 73; refine J.out.mono ?_; rintro e w2 ⟨rfl, hb⟩)
      go_ret2
      exact ⟨rfl, hb⟩
end Mg
end Go.Proofs.YtcbkbjpdfanjpaaGreatDoor

namespace Go.Proofs.YtcbkbjpdfanjpaaGreatDoor
open Go.RowKit
set_option maxRecDepth 100000
theorem run_part_agg {P : Program} {e : TypeId} {d : TypeDesc} {cs : Array Value} {off n : Nat} {w : World} (hu : P.underlying e = some d) (hd : wide d = true) (hi : (P.info? e).map (·.size) = some n) :
    (part e cs off).run P w = .ok (.agg (cs.extract off (off + n))) w := by
  have ha : (isAgg e).run P w = .ok true w := by
    cases d <;> first | (cases hd; done) | simp [isAgg, run_underlying hu]
  obtain ⟨i, hi1, hi2⟩ := Option.map_eq_some_iff.1 hi
  simp [part, ha, sizeOf, typeInfo, hi1, hi2]
theorem run_index_rowM {P : Program} {t e : TypeId} {d : TypeDesc} {cs : Array Value} {i m n : Nat} {w : World} (ht : P.underlying t = some (.array m e)) (hu : P.underlying e = some d) (hd : wide d = true) (hi : (P.info? e).map (·.size) = some n) (hm : i < m) :
    (Instr.index t (.agg cs) (.int .i64 (i : Nat))).run P w = .ok (.agg (cs.extract (i * n) (i * n + n))) w := by
  have hp := run_part_agg (P := P) (cs := cs) (off := i * n) (w := w) hu hd hi
  obtain ⟨j, hi1, hi2⟩ := Option.map_eq_some_iff.1 hi
  have h1 : (0 : Int) ≤ (i : Int) ∧ (i : Int) < (m : Int) := by omega
  simp [Instr.index, run_underlying ht, asIntOf, sizeOf, typeInfo, hi1, hi2, hp]
  intro h
  omega
theorem find_at {α : Type} {p : α → Bool} : ∀ (l : List α) (i : Nat) (r : α), l[i]? = some r → p r = true → (∀ j x, j < i → l[j]? = some x → p x = false) → l.find? p = some r
  | [], i, r, h, _, _ => by simp at h
  | q :: l, 0, r, h, hp, _ => by
    obtain rfl : q = r := by simpa using h
    simp [hp]
  | q :: l, i + 1, r, h, hp, hn => by
    have h0 := hn 0 q (Nat.succ_pos _) rfl
    rw [List.find?_cons_of_neg (by rw [h0]; decide)]
    exact find_at l i r (by simpa using h) hp (fun j x hj hx => hn (j + 1) x (by omega) (by simpa using hx))
theorem ret_ct {P : Program} {fn : Func} {R : Ending → World → Prop} {a : Act} {w : World} {p q : Tmp} {b n : Nat} {t T : TypeId} {d : TypeDesc} {cs : List Value} {v : Value} (h : fn.results = #[.cell p T, .tmp q]) (hb : Blk w b t cs)
    (hu : P.underlying T = some d) (hw : wide d = true) (hi : (P.info? T).map (·.size) = some n) (hl : cs.length = n)
    (hp : a.tmps.getD p undef = .pointer (some ⟨b, 0, none⟩)) (hq : a.tmps.getD q undef = v) (hd : a.defers = []) (hR : R (.returned (.tuple #[.agg cs.toArray, v])) w) : bodyPost P fn R .ret a w := by
  refine bodyPost_ret ?_ hd hR
  have hp' : a.tmps[p]?.getD undef = .pointer (some ⟨b, 0, none⟩) := by simpa using hp
  have hq' : a.tmps[q]?.getD undef = v := by simpa using hq
  simp [results, h, hp', hq', asAddr, run_loadVar_row (P := P) w b t T cs.toArray (0, 0) _ hb hu (by cases d <;> first | rfl | cases hw) (by rw [hi]; simp [hl])]
theorem load_wide {P : Program} {ops : Array Oper} {rest : List Oper} {o : Oper} {a : Act} {w : World} {Q : Exit → Act → World → Prop} {b n : Nat} {t T : TypeId} {d : TypeDesc} {x : Operand} {cs : List Value} (hb : Blk w b t cs)
    (hu : P.underlying T = some d) (hw : wide d = true) (hi : (P.info? T).map (·.size) = some n) (hl : cs.length = n)
    (hg : Region.wanted o (yielded ops a.tmps) = true) (ho : o.op = .load T x) (hx : a.eval x = .pointer (some ⟨b, 0, none⟩)) (h : wpList P ops Q rest (a.put o.dst (.agg cs.toArray)) w) : wpList P ops Q (o :: rest) a w := by
  unfold wpList
  rw [if_pos hg]
  exact .inl (wp_load_row T x ho b hx t _ (0, 0) _ hb hu (by cases d <;> first | rfl | cases hw) (by rw [hi]; simp [hl]) h)
namespace Mg
abbrev tW : TypeId := 117
theorem row_size : (Tryz.prog.info? tW).map (·.size) = some 3 := by kernel_rfl
theorem rows_size : (Tryz.prog.info? 140).map (·.size) = some 87 := by kernel_rfl
def rdRow : DataW Unit → Int × S × S
  | .agg [.lit (.int _ k), .lit (.string a), .lit (.string b)] => (k, a, b)
  | _ => (0, [], [])
def rowT : List (Int × S × S) := match (Rows.laid_speakeasy_message_rows : DataW Unit) with
  | .agg l => l.map rdRow
  | _ => []
theorem rowT_len : rowT.length = 29 := by kernel_rfl
theorem rowT_rows : rowT.map (fun r => (r.1, r.2.2)) = Ms.rows.map (fun r => ((r.1 : Int), r.2)) := by kernel_rfl
def rowV (r : Int × S × S) : List Value := [.int .i64 r.1, .string (by8 r.2.1), .string (by8 r.2.2)]
def rowC (l : List (Int × S × S)) : List Value := l.flatMap rowV
theorem rowC_len : ∀ l, (rowC l).length = 3 * l.length
  | [] => rfl
  | r :: l => by
    show (rowV r ++ rowC l).length = _
    rw [List.length_append, rowC_len l, List.length_cons]
    show 3 + _ = _
    omega
theorem rowC_at : ∀ (l : List (Int × S × S)) (i : Nat) r, l[i]? = some r → ((rowC l).drop (i * 3)).take 3 = rowV r
  | [], i, r, h => by simp at h
  | q :: l, 0, r, h => by
    obtain rfl : q = r := by simpa using h
    rfl
  | q :: l, i + 1, r, h => by
    rw [show (i + 1) * 3 = i * 3 + 3 by omega]
    show ((rowV q ++ rowC l).drop (i * 3 + 3)).take 3 = _
    rw [Nat.add_comm, ← List.drop_drop, List.drop_left' (show (rowV q).length = 3 from rfl)]
    exact rowC_at l i r (by simpa using h)
/-- the table lies in its variable -/
def RowsAt (w : World) : Prop := w.rangeAt 6 0 (rowC rowT) ∧ 6 < w.heap.size
theorem RowsAt.below {w w' : World} (h : RowsAt w) (hb : Below w.heap.size w w') : RowsAt w' := by
  refine ⟨fun j v hj => ?_, Nat.lt_of_lt_of_le h.2 hb.size⟩
  rw [hb.cell (p := ⟨6, 0 + j, none⟩) h.2]
  exact h.1 j v hj
theorem RowsAt.keeps {F : Nat → Prop} {w w' : World} (h : RowsAt w) (hk : Keeps F w w') (hF : ¬ F 6) : RowsAt w' := by
  refine ⟨fun j v hj => ?_, Nat.lt_of_lt_of_le h.2 hk.size⟩
  exact hk.cell (p := ⟨6, 0 + j, none⟩) (h.1 j v hj) hF
theorem index_row (i : Nat) (r : Int × S × S) (h : rowT[i]? = some r) (w : World) : (Instr.index 140 (.agg (rowC rowT).toArray) (.int .i64 (i : Nat))).run Tryz.prog w = .ok (.agg (rowV r).toArray) w := by
  have hi : i < 29 := by rw [← rowT_len]; exact (List.getElem?_eq_some_iff.1 h).1
  rw [run_index_rowM (n := 3) Tryz.underlying140 Tryz.underlying117 rfl row_size hi]
  congr 1
  have := rowC_at rowT i r h
  rw [← this]
  congr 1
  apply Array.ext'
  rw [Array.toList_extract, List.extract_eq_take_drop]
  simp
theorem rowV_one (r : Int × S × S) : ∀ v ∈ rowV r, v.oneCell' = true := by
  intro v hv
  simp only [rowV, List.mem_cons, List.not_mem_nil, or_false] at hv
  rcases hv with rfl | rfl | rfl <;> rfl
def FPost (RT : List (Int × S × S)) (k : Int) (w : World) (e : Ending) (w' : World) : Prop :=
  (∃ r, e = .returned (.tuple #[.agg (rowV r).toArray, .bool (RT.find? (fun r => decide (r.1 = k))).isSome]) ∧ ∀ r', RT.find? (fun r => decide (r.1 = k)) = some r' → r' = r) ∧ Below w.heap.size w w'
set_option maxHeartbeats 4000000 in
theorem find_ok (k : Int) (w : World) (hR : RowsAt w) :
    Calls Tryz.prog 72 #[.int .i64 k] w fun e w' => FPost rowT k w e w' := by
  have hg := hR.1
  have hgl := hR.2
  have TL := Lib.hid rowT_len
  have CL : Hid ((rowC rowT).length = 87) := Lib.hid (by rw [rowC_len, rowT_len])
  have IX := Lib.hid index_row
  obtain ⟨RT, hRT⟩ : ∃ RT, RT = rowT := ⟨_, rfl⟩
  rw [← hRT] at TL CL IX hg ⊢
  clear hR hRT
  go_enter Tryz.func72, Tryz.ntmps72
  go_upto_region 1 with fail
  refine wp_gen (fun wx => Blk wx w.heap.size tW (rowV (0, [], [])) ∧ wx.rangeAt 6 0 (rowC RT) ∧ Below w.heap.size w wx) ⟨Blk.new w tW (rowV (0, [], [])), fun j v hj => by rw [(below1 w _).cell (p := ⟨6, 0 + j, none⟩) hgl]; exact hg j v hj, below1 _ _⟩ ?_
  clear hg hgl
  rintro w1 ⟨O1, G1, B1⟩
  go_upto_region 2 with (refine wpList_load_mid rfl 140 _ rfl 6 0 rfl (rowC RT) _ G1 Tryz.underlying140 rfl (by rw [CL.out]; exact rows_size) ?_)
  clear G1
  have H1 : Hid (Blk w1 w.heap.size tW (rowV (0, [], [])) ∧ Below w.heap.size w w1) := Lib.hid ⟨O1, B1⟩
  clear O1 B1
  generalize (rowC RT).toArray = CA at *
  go_loopw [7] (fun v7 wx => ∃ i : Nat, v7 = .int .i64 i ∧ i ≤ 29 ∧ Hid (∀ j r, j < i → RT[j]? = some r → decide (r.1 = k) = false) ∧ Hid (Blk wx w.heap.size tW (rowV (0, [], [])) ∧ Below w.heap.size w wx)) (fun v _ => 29 - (intOf v).toNat)
  case atStart => exact ⟨0, rfl, by omega, Lib.hid (fun j r h => by omega), H1⟩
  case round =>
    obtain ⟨i, rfl, hi, hno, hb⟩ := hrel
    clear H1
    by_cases hgo : i < 29
    · obtain ⟨r, hr⟩ : ∃ r, RT[i]? = some r := ⟨_, List.getElem?_eq_getElem (by rw [TL.out]; exact hgo)⟩
      have hix := IX.out i r hr
      have HR := Lib.hid hr
      clear hr
      obtain ⟨rk, rn, rf⟩ := r
      have ONE := rowV_one (rk, rn, rf)
      go_upto_region 4 with (refine store_blk (n := 3) (cs := rowV (rk, rn, rf)) (Blk.new wr tW (rowV (0, [], []))) row_size rfl rfl ONE rfl rfl rfl rfl ?_)
      refine wp_gen (fun wx => Blk wx w.heap.size tW (rowV (0, [], [])) ∧ Blk wx wr.heap.size tW (rowV (rk, rn, rf)) ∧ Below w.heap.size w wx) ⟨(hb.out.1.alloc _).farRow (by have := hb.out.1.lt; omega) _, (Blk.new wr tW _).setRow _, below_row (hb.out.2.alloc hb.out.2.size _) _ _ hb.out.2.size⟩ ?_
      have hne : w.heap.size ≠ wr.heap.size := by have := hb.out.1.lt; omega
      clear hb
      generalize wr.heap.size = c5 at *
      rintro w5 ⟨O5, N5, B5⟩
      have c0 := N5.cell 0 _ rfl
      by_cases hk : rk = k
      · subst hk
        have HF : Hid (RT.find? (fun r => decide (r.1 = rk)) = some (rk, rn, rf)) := Lib.hid (find_at RT i _ HR.out (decide_eq_true rfl) hno.out)
        have HO := Lib.hid (And.intro (O5.setRow (rowV (rk, rn, rf))) (below_row B5 w.heap.size (rowV (rk, rn, rf)).toArray (Nat.le_refl _)))
        go_wp2_with (first | refine load_wide N5 Tryz.underlying117 rfl row_size rfl rfl rfl rfl ?_ | refine store_blk (n := 3) (cs := rowV (rk, rn, rf)) O5 row_size rfl rfl ONE rfl rfl rfl rfl ?_)
        exact ret_ct rfl HO.out.1 Tryz.underlying117 rfl row_size rfl rfl rfl rfl ⟨⟨(rk, rn, rf), by rw [HF.out]; rfl, fun r' h => by rw [HF.out] at h; exact (Option.some.inj h).symm⟩, HO.out.2⟩
      · have hkf : (rk == k) = false := by simpa using hk
        have HN2 : Hid (∀ j r, j < i + 1 → RT[j]? = some r → decide (r.1 = k) = false) := Lib.hid fun j r hj hr => by
          by_cases hji : j = i
          · subst hji
            obtain rfl := Option.some.inj (HR.out.symm.trans hr)
            exact decide_eq_false hk
          · exact hno.out j r (by omega) hr
        have HB := Lib.hid (And.intro O5 B5)
        clear O5 B5 hk
        go_wp2_with fail
        go_roundw
        case rel => exact ⟨i + 1, by go_num, by omega, HN2, HB⟩
        case measure => simp [intOf]; omega
    · obtain rfl : i = 29 := by omega
      have HF : Hid (RT.find? (fun r => decide (r.1 = k)) = none) := Lib.hid (by
        rw [List.find?_eq_none]
        intro r hr
        obtain ⟨j, hj⟩ := List.mem_iff_getElem?.1 hr
        have := hno.out j r (by have h := (List.getElem?_eq_some_iff.1 hj).1; rw [TL.out] at h; exact h) hj
        simpa using this)
      have O5 := hb.out.1
      have ONE := rowV_one (0, [], [])
      have HO := Lib.hid (And.intro (O5.setRow (rowV (0, [], []))) (below_row hb.out.2 w.heap.size (rowV (0, [], [])).toArray (Nat.le_refl _)))
      go_wp2_with (refine store_blk (n := 3) (cs := rowV (0, [], [])) O5 row_size rfl rfl ONE rfl rfl rfl rfl ?_)
      exact ret_ct rfl HO.out.1 Tryz.underlying117 rfl row_size rfl rfl rfl rfl ⟨⟨(0, [], []), by rw [HF.out]; rfl, fun r' h => by rw [HF.out] at h; cases h⟩, HO.out.2⟩
theorem find_map {α β γ : Type} (f : α → γ) (g : β → γ) (p : γ → Bool) : ∀ (a : List α) (b : List β), a.map f = b.map g → (a.find? (fun x => p (f x))).map f = (b.find? (fun x => p (g x))).map g
  | [], [], _ => rfl
  | [], _ :: _, h => by simp at h
  | _ :: _, [], h => by simp at h
  | x :: a, y :: b, h => by
    simp only [List.map_cons, List.cons.injEq] at h
    have ih := find_map f g p a b h.2
    rw [List.find?_cons, List.find?_cons, ← h.1]
    cases p (f x)
    · exact ih
    · simp [h.1]
theorem letters_rows (k : Int) : Ms.letters k = (rowT.find? (fun r => decide (r.1 = k))).map (fun r => r.2.2) := by
  have := find_map (fun r : Int × S × S => (r.1, r.2.2)) (fun r : Nat × S => ((r.1 : Int), r.2)) (fun r => decide (r.1 = k)) rowT Ms.rows rowT_rows
  have h2 := congrArg (Option.map (fun r : Int × S => r.2)) this
  rw [Option.map_map, Option.map_map] at h2
  exact h2.symm
set_option maxHeartbeats 2000000 in
theorem fields_ok (k : Int) (ls : S) (hls : Ms.letters k = some ls) (w : World) (hR : RowsAt w) :
    Calls Tryz.prog 34 #[.int .i64 k] w fun e w' => e = .returned (.tuple #[.string (by8 ls), .bool true]) ∧ Below w.heap.size w w' := by
  have P : Hid (Calls Tryz.prog 72 #[.int .i64 k] w fun e w' => (∃ r : Int × S × S, r.2.2 = ls ∧ e = .returned (.tuple #[.agg (rowV r).toArray, .bool true])) ∧ Below w.heap.size w w') := Lib.hid (by
    refine (find_ok k w hR).mono ?_
    rintro e w' ⟨⟨r, rfl, hr⟩, hb⟩
    rw [letters_rows] at hls
    obtain ⟨q, hq, hq2⟩ := Option.map_eq_some_iff.1 hls
    have := hr q hq
    subst this
    rw [hq]
    exact ⟨⟨q, hq2, rfl⟩, hb⟩)
  clear hR hls
  go_enter Tryz.func34, Tryz.ntmps34
  go_wp2_with fail
  refine P.out.mono ?_
  rintro e w2 ⟨⟨⟨rk, rn, rf⟩, rfl, rfl⟩, hb2⟩
  clear P
  have ONE := rowV_one (rk, rn, rf)
  go_upto_region 2 with (refine store_blk (n := 3) (cs := rowV (rk, rn, rf)) (Blk.new w2 tW (rowV (0, [], []))) row_size rfl rfl ONE rfl rfl rfl rfl ?_)
  refine wp_gen (fun wx => Blk wx w2.heap.size tW (rowV (rk, rn, rf)) ∧ Below w.heap.size w wx) ⟨(Blk.new w2 tW _).setRow _, below_row (hb2.alloc hb2.size _) _ _ hb2.size⟩ ?_
  rintro w5 ⟨N5, B5⟩
  have c2 := N5.cell 2 _ rfl
  go_wp2_with fail
  go_ret2
  exact ⟨rfl, B5⟩
end Mg
end Go.Proofs.YtcbkbjpdfanjpaaGreatDoor
