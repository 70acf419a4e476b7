/-
Slices that are only read: their elements' cells, in a block outside F; the first taken off; cut at a length.
strings.Count at one byte, strings.Split of names joined by commas, strings.Join of names.
-/
import Derived.Shelf.Strings.SplitCore
import Derived.Shelf.Strings.Count
import Derived.Lib.SplitLaws
import Derived.Shelf.Strings.OnBuilder
import Derived.Test.YtcbkbjpdfanjpaaGreatDoorPk02
import Derived.Test.YtcbkbjpdfanjpaaGreatDoorPk21
import Derived.Test.YtcbkbjpdfanjpaaGreatDoorPk18
import Derived.Test.YtcbkbjpdfanjpaaGreatDoorPk07
import Derived.Test.YtcbkbjpdfanjpaaGreatDoorPk03
namespace Go.Proofs.YtcbkbjpdfanjpaaGreatDoor
open Go.RowKit
/-- the slice at a, of n elements, of room c, holds xs; its block is none of F -/
def Rs (F : Nat → Prop) (w : World) (a : Option Addr) (n c : Nat) (xs : List Value) : Prop :=
  xs.length = n ∧ n ≤ c ∧ (n = 0 ∨ ∃ g off, a = some ⟨g, off, none⟩ ∧ g < w.heap.size ∧ ¬ F g ∧ ∀ j x, xs[j]? = some x → w.cell? ⟨g, off + j, none⟩ = some x)
theorem Rs.keeps {F G : Nat → Prop} {w w' : World} {a : Option Addr} {n c : Nat} {xs : List Value} (h : Rs F w a n c xs) (hk : Keeps G w w') (hG : ∀ g, g < w.heap.size → G g → F g) : Rs F w' a n c xs := by
  obtain ⟨h1, h2, h3⟩ := h
  refine ⟨h1, h2, h3.imp id ?_⟩
  rintro ⟨g, off, e, hg, hF, hx⟩
  exact ⟨g, off, e, Nat.lt_of_lt_of_le hg hk.size, hF, fun j x hj => hk.cell (p := ⟨g, off + j, none⟩) (hx j x hj) (fun e => hF (hG g hg e))⟩
theorem Rs.below {F : Nat → Prop} {w w' : World} {a : Option Addr} {n c : Nat} {xs : List Value} (h : Rs F w a n c xs) (hb : Below w.heap.size w w') : Rs F w' a n c xs :=
  h.keeps (Keeps.of_below (F := fun _ => False) hb) (fun _ _ e => e.elim)
theorem Rs.mono {F F' : Nat → Prop} {w : World} {a : Option Addr} {n c : Nat} {xs : List Value} (h : Rs F w a n c xs) (hF : ∀ g, g < w.heap.size → F' g → F g) : Rs F' w a n c xs := by
  obtain ⟨h1, h2, h3⟩ := h
  refine ⟨h1, h2, h3.imp id ?_⟩
  rintro ⟨g, off, e, hg, hn, hx⟩
  exact ⟨g, off, e, hg, fun e => hn (hF g hg e), hx⟩
theorem Rs.nil (F : Nat → Prop) (w : World) (a : Option Addr) (c : Nat) : Rs F w a 0 c [] := ⟨rfl, Nat.zero_le _, .inl rfl⟩
theorem Rs.len {F : Nat → Prop} {w : World} {a : Option Addr} {n c : Nat} {xs : List Value} (h : Rs F w a n c xs) : xs.length = n := h.1
theorem Rs.cap {F : Nat → Prop} {w : World} {a : Option Addr} {n c : Nat} {xs : List Value} (h : Rs F w a n c xs) : n ≤ c := h.2.1
theorem Rs.at {F : Nat → Prop} {w : World} {a : Option Addr} {n c i : Nat} {xs : List Value} {x : Value} (h : Rs F w a n c xs) (hi : xs[i]? = some x) :
    ∃ g off, a = some ⟨g, off, none⟩ ∧ g < w.heap.size ∧ ¬ F g ∧ i < n ∧ w.cell? ⟨g, off + i, none⟩ = some x := by
  obtain ⟨h1, h2, h3⟩ := h
  have hl := (List.getElem?_eq_some_iff.1 hi).1
  rcases h3 with h3 | ⟨g, off, e, hg, hF, hx⟩
  · omega
  · exact ⟨g, off, e, hg, hF, by omega, hx i x hi⟩
theorem Rs.of_sg {F : Nat → Prop} {w : World} {v : Value} {n : Nat} {xs : List Value} (h : Sg w 1 v n xs) (hF : ∀ g, vblk v = some g → ¬ F g) : ∃ a c, v = .slice a n c ∧ Rs F w a n c xs := by
  obtain ⟨hl, ao, cap, rfl, h1, h2, h3⟩ := h
  rw [Nat.mul_one] at hl
  refine ⟨ao, cap, rfl, hl, h1, ?_⟩
  rcases Nat.eq_zero_or_pos n with h0 | h0
  · exact .inl h0
  rcases h3 with rfl | ⟨g, off, rfl, hg, hc, hx⟩
  · omega
  · refine .inr ⟨g, off, rfl, hg, hF g (by simp [vblk]; omega), fun j x hj => ?_⟩
    have hjl := (List.getElem?_eq_some_iff.1 hj).1
    rw [hx j (by omega), hj]
/-- [1:] -/
theorem Rs.tail {F : Nat → Prop} {P : Program} {t e : TypeId} {i : TypeInfo} (hu : P.underlying t = some (.slice e)) (hi : P.info? e = some i) (h1 : i.size = 1) {w : World} {a : Option Addr} {n c : Nat} {x : Value} {xs : List Value} (h : Rs F w a (n + 1) c (x :: xs)) :
    ∃ a', (∀ w', (Instr.sliceAt t (.slice a (n + 1) c) (some (.int .i64 1)) none none).run P w' = .ok (.slice a' n (c - 1)) w') ∧ Rs F w a' n (c - 1) xs := by
  obtain ⟨hl, hc, h3⟩ := h
  rw [List.length_cons] at hl
  rcases h3 with h3 | ⟨g, off, rfl, hg, hF, hx⟩
  · omega
  · refine ⟨if c = 1 then some ⟨g, off, none⟩ else some ⟨g, off + 1, none⟩, fun w' => ?_, by omega, by omega, ?_⟩
    · simp [Instr.sliceAt, Instr.slice, run_underlying hu, Instr.sliceBounds, Instr.sliceBound, asIntOf, sizeOf, typeInfo, hi, h1, Addr.add]
      intro h
      omega
    · by_cases hc1 : c = 1
      · exact .inl (by omega)
      · rw [if_neg hc1]
        exact .inr ⟨g, off + 1, rfl, hg, hF, fun j y hj => by
          have := hx (j + 1) y (by simpa using hj)
          rw [show off + 1 + j = off + (j + 1) by omega]
          exact this⟩
theorem wpList_tail {P : Program} {ops : Array Oper} {rest : List Oper} {o : Oper} {a : Act} {w : World} {Q : Exit → Act → World → Prop} {t : TypeId} {x : Operand} {v v' : Value} (hr : ∀ w', (Instr.sliceAt t v (some (.int .i64 1)) none none).run P w' = .ok v' w')
    (hg : o.guard = none) (ho : o.op = .slice t x (some (.const (.int .i64 1))) none none) (hx : a.eval x = v) (h : wpList P ops Q rest (a.put o.dst v') w) : wpList P ops Q (o :: rest) a w :=
  wpList_plain hg fun K hK => by
    unfold Oper.wp execOp
    have e : a.eval (.const (.int .i64 1)) = .int .i64 1 := rfl
    simp only [ho, hx, Option.map_some, Option.map_none, e, Sem.run_bind, hr, Result.andThen_ok, Sem.run_pure, Oper.upon]
    exact hK _ _ h
/-- [:k] -/
theorem Rs.take {F : Nat → Prop} {P : Program} {t e : TypeId} {i : TypeInfo} (hu : P.underlying t = some (.slice e)) (hi : P.info? e = some i) {w : World} {a : Option Addr} {n c : Nat} {xs : List Value} (h : Rs F w a n c xs) (k : Nat) (hk : k ≤ n) :
    ∃ a', (∀ w', (Instr.sliceAt t (.slice a n c) none (some (.int .i64 (k : Nat))) none).run P w' = .ok (.slice a' k c) w') ∧ Rs F w a' k c (xs.take k) := by
  obtain ⟨hl, hc, h3⟩ := h
  have hl2 : (xs.take k).length = k := by rw [List.length_take]; omega
  rcases h3 with h3 | ⟨g, off, rfl, hg, hF, hx⟩
  · obtain rfl : k = 0 := by omega
    refine ⟨a, fun w' => ?_, hl2, by omega, .inl rfl⟩
    cases a <;> simp [Instr.sliceAt, Instr.slice, run_underlying hu, Instr.sliceBounds, Instr.sliceBound, asIntOf, sizeOf, typeInfo, hi, Addr.add] <;> first | omega | skip
  · refine ⟨some ⟨g, off, none⟩, fun w' => ?_, hl2, by omega, .inr ⟨g, off, rfl, hg, hF, fun j x hj => hx j x ?_⟩⟩
    · simp [Instr.sliceAt, Instr.slice, run_underlying hu, Instr.sliceBounds, Instr.sliceBound, asIntOf, sizeOf, typeInfo, hi, Addr.add]
      intro h
      omega
    · rw [List.getElem?_take] at hj
      split at hj
      · exact hj
      · cases hj
end Go.Proofs.YtcbkbjpdfanjpaaGreatDoor

namespace Go.Proofs.YtcbkbjpdfanjpaaGreatDoor
open Go.RowKit
set_option maxRecDepth 100000
def Sh.lays221_ren : Go.Shelf.Ren := ⟨fun | 221 => 101 | 268 => 117 | 138 => 95 | 143 => 97 | 195 => 110 | 197 => 125 | 218 => 111 | 219 => 96 | 260 => 126 | 217 => 112 | 225 => 113 | 224 => 114 | 267 => 115 | 266 => 123 | 314 => 124 | n => n, fun | 9 => 9 | 3 => 3 | 31 => 42 | 4 => 4 | 0 => 0 | 105 => 176 | 21 => 21 | 5 => 5 | 46 => 107 | 119 => 178 | 139 => 181 | 138 => 180 | 146 => 129 | 51 => 75 | n => n, fun | 1 => 10 | 3 => 11 | 4 => 12 | n => n⟩
theorem Sh.lays221 : Go.Proofs.Lays.n221 Tryz.prog Sh.lays221_ren := {
  mixed := by kernel_rfl
  f138 := Tryz.func95.trans (congrArg some (by kernel_rfl))
  f143 := Tryz.func97.trans (congrArg some (by kernel_rfl))
  f195 := Tryz.func110.trans (congrArg some (by kernel_rfl))
  f197 := Tryz.func125.trans (congrArg some (by kernel_rfl))
  f217 := Tryz.func112.trans (congrArg some (by kernel_rfl))
  f218 := Tryz.func111.trans (congrArg some (by kernel_rfl))
  f219 := Tryz.func96.trans (congrArg some (by kernel_rfl))
  f221 := Tryz.func101.trans (congrArg some (by kernel_rfl))
  f224 := Tryz.func114.trans (congrArg some (by kernel_rfl))
  f225 := Tryz.func113.trans (congrArg some (by kernel_rfl))
  f260 := Tryz.func126.trans (congrArg some (by kernel_rfl))
  f266 := Tryz.func123.trans (congrArg some (by kernel_rfl))
  f267 := Tryz.func115.trans (congrArg some (by kernel_rfl))
  f268 := Tryz.func117.trans (congrArg some (by kernel_rfl))
  f314 := Tryz.func124.trans (congrArg some (by kernel_rfl))
  t0 := Tryz.underlying0
  a0 := Tryz.isAgg0
  z0 := Tryz.sizeOf0
  v0 := Tryz.zeroValue0
  t3 := Tryz.underlying3
  a3 := Tryz.isAgg3
  z3 := Tryz.sizeOf3
  v3 := Tryz.zeroValue3
  t4 := Tryz.underlying4
  a4 := Tryz.isAgg4
  z4 := Tryz.sizeOf4
  v4 := Tryz.zeroValue4
  t5 := Tryz.underlying5
  a5 := Tryz.isAgg5
  z5 := Tryz.sizeOf5
  v5 := Tryz.zeroValue5
  t9 := Tryz.underlying9
  a9 := Tryz.isAgg9
  z9 := Tryz.sizeOf9
  v9 := Tryz.zeroValue9
  t21 := Tryz.underlying21
  a21 := Tryz.isAgg21
  z21 := Tryz.sizeOf21
  v21 := Tryz.zeroValue21
  t31 := Tryz.underlying42
  a31 := Tryz.isAgg42
  z31 := Tryz.sizeOf42
  v31 := Tryz.zeroValue42
  t46 := Tryz.underlying107
  a46 := Tryz.isAgg107
  z46 := Tryz.sizeOf107
  v46 := Tryz.zeroValue107
  t51 := Tryz.underlying75
  a51 := Tryz.isAgg75
  z51 := Tryz.sizeOf75
  v51 := Tryz.zeroValue75
  t105 := Tryz.underlying176
  a105 := Tryz.isAgg176
  z105 := Tryz.sizeOf176
  v105 := Tryz.zeroValue176
  t119 := Tryz.underlying178
  a119 := Tryz.isAgg178
  z119 := Tryz.sizeOf178
  t138 := Tryz.underlying180
  a138 := Tryz.isAgg180
  z138 := Tryz.sizeOf180
  v138 := Tryz.zeroValue180
  t139 := Tryz.underlying181
  a139 := Tryz.isAgg181
  z139 := Tryz.sizeOf181
  v139 := Tryz.zeroValue181
  t146 := Tryz.underlying129
  a146 := Tryz.isAgg129
  z146 := Tryz.sizeOf129
  v146 := Tryz.zeroValue129
  g1 := by kernel_rfl
  g3 := by kernel_rfl
  g4 := by kernel_rfl }
def Sh.lays138_ren : Go.Shelf.Ren := ⟨fun | 138 => 95 | 195 => 110 | 218 => 111 | 143 => 97 | 219 => 96 | 217 => 112 | 225 => 113 | 224 => 114 | 267 => 115 | 266 => 123 | 314 => 124 | n => n, fun | 9 => 9 | 3 => 3 | 4 => 4 | 5 => 5 | 0 => 0 | 46 => 107 | 146 => 129 | 51 => 75 | n => n, fun | 1 => 10 | n => n⟩
theorem Sh.lays138 : Go.Proofs.Lays.n138 Tryz.prog Sh.lays138_ren := {
  mixed := by kernel_rfl
  f138 := Tryz.func95.trans (congrArg some (by kernel_rfl))
  f143 := Tryz.func97.trans (congrArg some (by kernel_rfl))
  f195 := Tryz.func110.trans (congrArg some (by kernel_rfl))
  f217 := Tryz.func112.trans (congrArg some (by kernel_rfl))
  f218 := Tryz.func111.trans (congrArg some (by kernel_rfl))
  f219 := Tryz.func96.trans (congrArg some (by kernel_rfl))
  f224 := Tryz.func114.trans (congrArg some (by kernel_rfl))
  f225 := Tryz.func113.trans (congrArg some (by kernel_rfl))
  f266 := Tryz.func123.trans (congrArg some (by kernel_rfl))
  f267 := Tryz.func115.trans (congrArg some (by kernel_rfl))
  f314 := Tryz.func124.trans (congrArg some (by kernel_rfl))
  t0 := Tryz.underlying0
  a0 := Tryz.isAgg0
  z0 := Tryz.sizeOf0
  v0 := Tryz.zeroValue0
  t3 := Tryz.underlying3
  a3 := Tryz.isAgg3
  z3 := Tryz.sizeOf3
  v3 := Tryz.zeroValue3
  t4 := Tryz.underlying4
  a4 := Tryz.isAgg4
  z4 := Tryz.sizeOf4
  v4 := Tryz.zeroValue4
  t5 := Tryz.underlying5
  a5 := Tryz.isAgg5
  z5 := Tryz.sizeOf5
  v5 := Tryz.zeroValue5
  t9 := Tryz.underlying9
  a9 := Tryz.isAgg9
  z9 := Tryz.sizeOf9
  v9 := Tryz.zeroValue9
  t46 := Tryz.underlying107
  a46 := Tryz.isAgg107
  z46 := Tryz.sizeOf107
  v46 := Tryz.zeroValue107
  t51 := Tryz.underlying75
  a51 := Tryz.isAgg75
  z51 := Tryz.sizeOf75
  v51 := Tryz.zeroValue75
  t146 := Tryz.underlying129
  a146 := Tryz.isAgg129
  z146 := Tryz.sizeOf129
  v146 := Tryz.zeroValue129
  g1 := by kernel_rfl }
namespace Spl
abbrev S := List UInt8
theorem count1_ok (l : S) (c : UInt8) (w : World) : Calls Tryz.prog 95 #[.string (by8 l), .string ⟨#[c]⟩] w fun e w' => e = .returned (.int .i64 (l.count c : Nat)) ∧ w' = w :=
  Any.strings_Count_one Sh.lays138 (by8 l) c w
theorem strInfo : (Tryz.prog.info? 9).map (fun i => (i.zero, i.size, i.bytes)) = some (some (.string ByteArray.empty), 1, 16) := by kernel_rfl
theorem indexB_one (x : S) : Lib.indexB (by8 x) ⟨#[44]⟩ = Lib.indexByte x 44 := Lib.index_one x 44
theorem countB_one (x : S) : Lib.countB (by8 x) ⟨#[44]⟩ = x.count 44 := Lib.count_one 44 x
theorem ib_free : ∀ (x r : S), (∀ c ∈ x, c ≠ 44) → Lib.indexByte (x ++ 44 :: r) 44 = (x.length : Nat)
  | [], r, _ => rfl
  | c :: x, r, h => by
    have hc : (c == 44) = false := beq_eq_false_iff_ne.2 (h c List.mem_cons_self)
    have ih := ib_free x r (fun d hd => h d (List.mem_cons_of_mem _ hd))
    show (if c == 44 then 0 else if Lib.indexByte (x ++ 44 :: r) 44 == -1 then -1 else Lib.indexByte (x ++ 44 :: r) 44 + 1) = _
    have h2 : (((x.length : Nat) : Int) == -1) = false := by rw [beq_eq_false_iff_ne]; omega
    rw [hc, ih, h2]
    simp
theorem ib_none : ∀ (x : S), (∀ c ∈ x, c ≠ 44) → Lib.indexByte x 44 = -1
  | [], _ => rfl
  | c :: x, h => by
    have hc : (c == 44) = false := beq_eq_false_iff_ne.2 (h c List.mem_cons_self)
    have ih := ib_none x (fun d hd => h d (List.mem_cons_of_mem _ hd))
    show (if c == 44 then 0 else if Lib.indexByte x 44 == -1 then -1 else Lib.indexByte x 44 + 1) = _
    rw [hc, ih]
    rfl
theorem cnt_free (x : S) (h : ∀ c ∈ x, c ≠ 44) : x.count 44 = 0 := List.count_eq_zero.2 (fun hm => h 44 hm rfl)
theorem cnt_join : ∀ (l : List S), l ≠ [] → (∀ x ∈ l, ∀ c ∈ x, c ≠ (44 : UInt8)) → (Tm.join l).count 44 + 1 = l.length
  | [], h, _ => absurd rfl h
  | [a], _, h => by
    show a.count 44 + 1 = 1
    rw [cnt_free a (h a List.mem_cons_self)]
  | a :: b :: r, _, h => by
    have ih := cnt_join (b :: r) (by simp) (fun x hx => h x (List.mem_cons_of_mem _ hx))
    show (a ++ 44 :: Tm.join (b :: r)).count 44 + 1 = _
    rw [List.count_append, List.count_cons, cnt_free a (h a List.mem_cons_self), List.length_cons, ← ih]
    simp
theorem spl_join : ∀ (l : List S), l ≠ [] → (∀ x ∈ l, ∀ c ∈ x, c ≠ (44 : UInt8)) → Lib.splitB ⟨#[44]⟩ 0 (l.length - 1) (by8 (Tm.join l)) = l.map by8
  | [], h, _ => absurd rfl h
  | [a], _, h => rfl
  | a :: b :: r, _, h => by
    have ih := spl_join (b :: r) (by simp) (fun x hx => h x (List.mem_cons_of_mem _ hx))
    have hi : Lib.indexB (by8 (a ++ 44 :: Tm.join (b :: r))) ⟨#[44]⟩ = (a.length : Nat) := by rw [indexB_one]; exact ib_free a _ (h a List.mem_cons_self)
    show Lib.splitB ⟨#[44]⟩ 0 ((b :: r).length - 1 + 1) (by8 (a ++ 44 :: Tm.join (b :: r))) = _
    rw [Lib.splitB_hit _ _ _ _ a.length hi, Nat.add_zero, by8_take, List.take_left' rfl, List.map_cons, ← ih]
    congr 2
    rw [by8_size, by8_drop _ _ _ rfl]
    congr 1
    show (a ++ 44 :: Tm.join (b :: r)).drop (a.length + 1) = _
    rw [← List.drop_drop, List.drop_left' rfl]
    rfl
def sv (l : List S) : List Value := l.map fun x => Value.string (by8 x)
theorem cells_full (l : List S) (n : Nat) (h : l.length = n) : Lib.cellsOf (l.map by8) n = (sv l).toArray := by
  unfold Lib.cellsOf sv
  rw [List.length_map, h, Nat.sub_self, List.map_map]
  simp
set_option maxHeartbeats 2000000 in
theorem split_ok (l : List S) (h0 : l ≠ []) (h : ∀ x ∈ l, ∀ c ∈ x, c ≠ (44 : UInt8)) (hl : (Tm.join l).length ≤ 1000000) (w : World) :
    Calls Tryz.prog 82 #[.string (by8 (Tm.join l)), .string ⟨#[44]⟩] w fun e w' => e = .returned (.slice (some ⟨w.heap.size, 0, none⟩) l.length l.length) ∧ Blk w' w.heap.size 9 (sv l) ∧ Below w.heap.size w w' := by
  have hcj := cnt_join l h0 h
  have hn0 : 0 < l.length := List.length_pos_iff.2 h0
  have G := Any.strings_genSplit_core Sh.lays221 strInfo (by8 (Tm.join l)) ⟨#[44]⟩ 0 (-1) l.length w (by rw [by8_size]; omega) (by decide) (by decide)
    (fun x c _ => by
      have e := Lib.index_one x.data.toList 44
      refine (Sh.strings_Index_one x 44 _).mono ?_
      rintro e2 w' ⟨rfl, rfl⟩
      exact ⟨by rw [← e], rfl⟩)
    (by
      have hc := count1_ok (Tm.join l) 44 w
      rw [← countB_one] at hc
      exact hc) (by decide) (by decide) (by rw [if_pos (by decide), countB_one, by8_size]; have := List.count_le_length (a := (44 : UInt8)) (l := Tm.join l); omega)
  have G2 : Hid (Calls Tryz.prog 101 #[.string (by8 (Tm.join l)), .string ⟨#[44]⟩, .int .i64 0, .int .i64 (-1)] w fun e w' => e = .returned (.slice (some ⟨w.heap.size, 0, none⟩) l.length l.length) ∧ Blk w' w.heap.size 9 (sv l) ∧ Below w.heap.size w w') := Lib.hid (by
    refine G.mono ?_
    rintro e w' ⟨rfl, rfl⟩
    rw [spl_join l h0 h, List.length_map, cells_full l _ rfl]
    exact ⟨rfl, Blk.new w 9 (sv l), below1 _ _⟩)
  clear G hcj hn0 h hl h0
  generalize l.length = n at *
  go_enter Tryz.func82, Tryz.ntmps82
  go_wp2_with (go_at_call 101; refine G2.out.mono ?_; rintro e w2 ⟨rfl, h2, hb⟩)
  go_ret
  exact ⟨rfl, h2, hb⟩
theorem lib_join : ∀ (l : List S), Lib.join l [44] = Tm.join l
  | [] => rfl
  | [a] => Lib.join_one a [44]
  | a :: b :: r => by
    have ih := lib_join (b :: r)
    have h1 := Lib.join_cons a (b :: r) [44]
    have h2 := Lib.join_cons b r [44]
    rw [h1]
    show a ++ Lib.joinTail [44] (b :: r) = a ++ 44 :: Tm.join (b :: r)
    rw [← ih, h2]
    simp [Lib.joinTail]
theorem sv_len (l : List S) : (sv l).length = l.length := by simp [sv]
theorem join_ok (F : Nat → Prop) (a : Option Addr) (n c : Nat) (l : List S) (w : World) (h : Rs F w a n c (sv l)) (hn : l.length ≤ 1000) (hl : (Tm.join l).length ≤ 1000000) :
    Calls Tryz.prog 73 #[.slice a n c, .string ⟨#[44]⟩] w fun e w' => e = .returned (.string (by8 (Tm.join l))) ∧ Below w.heap.size w w' := by
  have hln : l.length = n := by rw [← sv_len]; exact h.len
  rcases Nat.eq_zero_or_pos n with h0 | h0
  · subst h0
    obtain rfl : l = [] := List.eq_nil_of_length_eq_zero hln
    refine (sh_join_none a c ⟨#[44]⟩ w).mono ?_
    rintro e w' ⟨rfl, rfl⟩
    exact ⟨rfl, Below.refl _ _⟩
  · obtain ⟨-, hc, h3⟩ := h
    rcases h3 with h3 | ⟨g, off, rfl, hg, -, hx⟩
    · omega
    · have hm : (l.map by8).map (·.data.toList) = l := by rw [List.map_map]; exact List.map_id _
      have hJ : Lib.join ((l.map by8).map (·.data.toList)) (ByteArray.data ⟨#[44]⟩).toList = Tm.join l := by rw [hm]; exact lib_join l
      have J := sh_join g off c (l.map by8) ⟨#[44]⟩ w (fun j x hj => hx j _ (by
        rw [List.getElem?_map] at hj
        obtain ⟨y, hy, rfl⟩ := Option.map_eq_some_iff.1 hj
        unfold sv
        rw [List.getElem?_map, hy]; rfl)) hg (by rw [List.length_map]; omega) (by rw [List.length_map]; omega) (by rw [hJ]; omega)
      rw [List.length_map, hln, hJ] at J
      exact J
end Spl
end Go.Proofs.YtcbkbjpdfanjpaaGreatDoor
