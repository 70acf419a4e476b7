/-
sha2: the sum of texts.
sha2: Sum256, Sum512.
sha2: Sum512.
The laid variables of a row, one by one; sha2's tables.
A drifting head whose values the walk finds; its tail: a new variable, and its value.
-/
import Derived.Lib.LaidTab
import Derived.Test.YtcbkbjpdfanjpaaGreatDoorPk07
import Derived.Test.YtcbkbjpdfanjpaaGreatDoorPk06
namespace Go.Proofs.YtcbkbjpdfanjpaaGreatDoor
open Go.RowKit Sha
set_option maxRecDepth 100000
abbrev IsB (B b : Nat) (l : List Value) (w : World) : Prop := Lib.IsBuilder 70 5 B b l w
namespace Sha
def catL (xs : List ByteArray) : List UInt8 := (xs.map (·.data.toList)).flatten
def padN (b : Bool) (n : Nat) : Nat := (2 * kw b - (n + 1 + kw b / 4) % (2 * kw b)) % (2 * kw b)
def tailL (n : Nat) (j : Nat) : List UInt8 := (List.range j).map fun k => lo8 ((n : Int) * 8 / 2 ^ (56 - 8 * k))
def padded (b : Bool) (m : List UInt8) : List UInt8 := m ++ (128 :: List.replicate (padN b m.length + kw b / 4 - 8) 0) ++ tailL m.length 8
def startH (b : Bool) (F : List Int) : Nat → List Int
  | 0 => z8
  | i + 1 => (startH b F i).set i (wordI b (F.getD i 0))
def blkH (b : Bool) (T h : List Int) (p : List UInt8) : Nat → List Int
  | 0 => h
  | j + 1 => mixF b T (blkH b T h p j) ((p.drop (2 * kw b * j)).take (2 * kw b))
def wordB (b : Bool) (x : Int) (j : Nat) : List UInt8 := (List.range j).map fun k => lo8 (x / 2 ^ (kw b - 8 - 8 * k))
def outL (b : Bool) (h : List Int) : List UInt8 := (h.map fun x => wordB b x (kw b / 8)).flatten
def sumF (b : Bool) (T F : List Int) (m : List UInt8) : List UInt8 := outL b (blkH b T (startH b F 8) (padded b m) ((padded b m).length / (2 * kw b)))
theorem tail_succ (n j : Nat) : tailL n (j + 1) = tailL n j ++ [lo8 ((n : Int) * 8 / 2 ^ (56 - 8 * j))] := by unfold tailL; rw [List.range_succ, List.map_append]; rfl
theorem tail_len (n j : Nat) : (tailL n j).length = j := by simp [tailL]
theorem word_succ (b : Bool) (x : Int) (j : Nat) : wordB b x (j + 1) = wordB b x j ++ [lo8 (x / 2 ^ (kw b - 8 - 8 * j))] := by unfold wordB; rw [List.range_succ, List.map_append]; rfl
theorem word_len (b : Bool) (x : Int) (j : Nat) : (wordB b x j).length = j := by simp [wordB]
theorem pad_full (b : Bool) (n : Nat) : (n + 1 + kw b / 4 + padN b n) % (2 * kw b) = 0 := by
  unfold padN
  have hk : kw b = 32 ∨ kw b = 64 := by cases b <;> decide
  rcases hk with h | h <;> rw [h] <;> omega
theorem padded_len (b : Bool) (m : List UInt8) : (padded b m).length = m.length + 1 + kw b / 4 + padN b m.length := by
  unfold padded
  have hk : kw b = 32 ∨ kw b = 64 := by cases b <;> decide
  rw [List.length_append, List.length_append, List.length_cons, List.length_replicate, tail_len]
  rcases hk with h | h <;> rw [h] <;> omega
theorem flat_len (b : Bool) (V : Nat) (H : List Int) : ∀ q, (((H.take q).map fun x => wordB b x V).flatten).length ≤ q * V
  | 0 => by simp
  | q + 1 => by
    rw [List.take_add_one, List.map_append, List.flatten_append, List.length_append, Nat.succ_mul]
    have := flat_len b V H q
    have h2 : ((List.map (fun x => wordB b x V) H[q]?.toList).flatten).length ≤ V := by
      cases H[q]? with
      | none => simp
      | some y => simp [word_len]
    omega
theorem start_len (b : Bool) (F : List Int) : ∀ i, (startH b F i).length = 8
  | 0 => rfl
  | i + 1 => by rw [startH, List.length_set, start_len b F i]
theorem blk_len (b : Bool) (T h : List Int) (p : List UInt8) (hl : h.length = 8) : ∀ j, (blkH b T h p j).length = 8
  | 0 => hl
  | j + 1 => by rw [blkH, mix_len, blk_len b T h p hl j]
end Sha
theorem join_cat (xs : List ByteArray) : Lib.join (xs.map (·.data.toList)) [] = catL xs := by
  cases xs with
  | nil => rfl
  | cons x r =>
    rw [List.map_cons, Lib.join_cons]
    unfold Lib.joinTail catL
    simp [Function.comp_def]
theorem tdiv_nat (a c : Nat) : ((a : Nat) : Int).tdiv (c : Nat) = ((a / c : Nat) : Int) := (Int.ofNat_tdiv a c).symm
theorem tmod_nat (a c : Nat) : ((a : Nat) : Int).tmod (c : Nat) = ((a % c : Nat) : Int) := (Int.ofNat_tmod a c).symm
end Go.Proofs.YtcbkbjpdfanjpaaGreatDoor

namespace Go.Proofs.YtcbkbjpdfanjpaaGreatDoor
open Go.RowKit Sha
set_option maxRecDepth 100000
theorem kb_len (b : Bool) : (kb b).length = 14 := by rw [iv_len]; cases b <;> rfl
/-- '[]byte(s)', looked at as an array -/
theorem by_arr (w : World) (e : TypeId) (l : List UInt8) (hl : l.length ≤ 1000000) : ∃ cp, byVal w e (by8 l) = .slice (some ⟨w.heap.size, 0, none⟩) l.length cp ∧ l.length ≤ cp ∧ (byWorld w e (by8 l)).rangeAt w.heap.size 0 (byv l) ∧ Rw w (byWorld w e (by8 l)) := by
  have hs := by8_size l
  have hsg := by_sg w e (by8 l) (by rw [hs]; unfold maxLen; omega)
  have hv : byVal w e (by8 l) = .slice (some ⟨w.heap.size, 0, none⟩) l.length (grownCap w l.length 0 e) := by unfold byVal; rw [hs]
  refine ⟨_, hv, grownCap_ge w l.length 0 e, fun j v hj => ?_, by_below w e (by8 l)⟩
  rw [hv, hs] at hsg
  obtain ⟨_, ao, cap, he, hn, _, hc⟩ := hsg
  have hjl : j < l.length := by
    have := (List.getElem?_eq_some_iff.1 hj).1
    rwa [byv_len] at this
  simp only [Value.slice.injEq] at he
  obtain ⟨rfl, _, rfl⟩ := he
  rcases hc with h0 | ⟨g, off, he, _, _, hx⟩
  · omega
  · simp only [Option.some.injEq, Addr.mk.injEq] at he
    obtain ⟨rfl, rfl, _⟩ := he
    rw [hx j (by omega)]
    exact hj
theorem run_arrayAt {P : Program} {t e : TypeId} {n : Nat} (ht : P.underlying t = some (.array n e)) (a : Addr) (len cap : Nat) (h : n ≤ len) (w : World) : (Instr.arrayAt t (.slice (some a) len cap)).run P w = .ok (.pointer (some a)) w := by
  simp [Instr.arrayAt, run_underlying ht, Nat.not_lt.2 h]
end Go.Proofs.YtcbkbjpdfanjpaaGreatDoor

namespace Go.Proofs.YtcbkbjpdfanjpaaGreatDoor
open Go.RowKit Sha
set_option maxRecDepth 100000
theorem sum512_len (T F : List Int) (m : List UInt8) (_hF : F.length = 8) : (sumF true T F m).length = 64 := by
  unfold sumF outL
  have hl := blk_len true T (startH true F 8) (padded true m) (start_len true F 8) ((padded true m).length / (2 * kw true))
  generalize blkH true T (startH true F 8) (padded true m) ((padded true m).length / (2 * kw true)) = H at *
  obtain ⟨a, b, c, d, e, f, g, k, rfl⟩ := list8 H hl
  simp [word_len, kw]
theorem arr64s_size : (Tryz.prog.info? 134).map (·.size) = some 64 := by kernel_rfl
theorem catL_one (m : List UInt8) : catL [by8 m] = m := by simp [catL, by8]
theorem catL_cons (m : List UInt8) (xs : List ByteArray) : catL (by8 m :: xs) = m ++ catL xs := by simp [catL, by8]
def S512 (T F : List Int) (m : List UInt8) : List UInt8 := sumF true T F m
end Go.Proofs.YtcbkbjpdfanjpaaGreatDoor

namespace Go.Proofs.YtcbkbjpdfanjpaaGreatDoor
open Go.RowKit Sha
set_option maxRecDepth 100000
def LV (laid : List (String × DataW Unit)) (W : World) : Prop := ∃ ps, DataW.LaidVars Tryz.prog W laid ps
theorem LV.tail {x : String × DataW Unit} {r : List (String × DataW Unit)} {W : World} (h : LV (x :: r) W) : LV r W := by
  obtain ⟨ps, g, t, cs, fuel, p, q, _, _, _, _, h2, _⟩ := h
  exact ⟨q, h2⟩
theorem LV.tab {W : World} {name : String} {k : IntKind} {zs : List Int} {rest : List (String × DataW Unit)} {g : Nat} {t e : TypeId} {n : Nat}
    (hg : Tryz.prog.globalNamed name = some g) (hty : (Tryz.prog.globals[g]?).map (·.type) = some t) (ht : Tryz.prog.underlying t = some (.array n e)) (he : Tryz.prog.underlying e = some (.int k)) (hce : Tryz.prog.cellsOf e = 1) (hct : Tryz.prog.cellsOf t = n)
    (h : LV ((name, Lib.tabData k zs) :: rest) W) : Lib.TabIs Tryz.prog W name k zs := by
  obtain ⟨ps, g', t', cs, fuel, p, q, hg', ht', hvar, hd, _, _⟩ := h
  obtain rfl := Option.some.inj (hg.symm.trans hg')
  obtain rfl := Option.some.inj (hty.symm.trans ht')
  unfold Lib.TabIs
  rw [hvar, ← Lib.cells_of_tab ht he hce hct hd]
theorem cell_lt' {W : World} {g i : Nat} {v : Value} (h : W.cell? ⟨g, i, none⟩ = some v) : g < W.heap.size := by
  rcases Nat.lt_or_ge g W.heap.size with h' | h'
  · exact h'
  · simp [World.cell?, Array.getElem?_eq_none h'] at h
end Go.Proofs.YtcbkbjpdfanjpaaGreatDoor

namespace Go.Proofs.YtcbkbjpdfanjpaaGreatDoor
open Go.RowKit
section
variable {P : Program} {ops : Array Oper} {w0 : World} {a : Act} {o : Oper} {K : Act → Prop}
theorem drift_autoE (hg : Region.wanted o (yielded ops a.tmps) = true) (h : ∃ v, (∀ w, Rw w0 w → (execOp a.eval o).run P w = .ok (.value v) w) ∧ K (a.put o.dst v)) :
    if Region.wanted o (yielded ops a.tmps) then ∃ v, (∀ w, Rw w0 w → o.quietAt P a (Rw w) w v) ∧ K (a.put o.dst v) else K (a.put o.dst undef) := by
  obtain ⟨v, hv, hk⟩ := h
  exact drift_plain v hg hv hk
theorem drift_callE (hg : Region.wanted o (yielded ops a.tmps) = true) (h : ∃ f args, (∀ w, (execOp a.eval o).run P w = .ok (.enter f args) w) ∧ ∃ v, (∀ w, Rw w0 w → Calls P f args w fun e w' => e = .returned v ∧ Rw w w') ∧ K (a.put o.dst v)) :
    if Region.wanted o (yielded ops a.tmps) then ∃ v, (∀ w, Rw w0 w → o.quietAt P a (Rw w) w v) ∧ K (a.put o.dst v) else K (a.put o.dst undef) := by
  obtain ⟨f, args, hv, v, hc, hk⟩ := h
  exact drift_call v f args hg hv hc hk
/-- a new variable, and its value -/
theorem drift_newG {t n : Nat} {old l : List Value} {oa os : Oper} {KW : Act → World → Prop} {d : Tmp} {y : Operand}
    (hrun : ∀ w : World, (Instr.alloc t true (.tuple #[])).run P w = .ok (.pointer (some ⟨w.heap.size, 0, none⟩)) (w.alloc (.cells old.toArray t)))
    (hsz : (P.info? t).map (·.size) = some n) (ho : old.length = n) (hl : l.length = n) (h1 : ∀ v ∈ l, v.oneCell' = true)
    (ha : oa.op = .alloc t) (hga : oa.guard = none) (hd : oa.dst = some d)
    (hs : os.op = .store t (.tmp d) y) (hgs : os.guard = none) (hds : os.dst = none) (hdt : d < a.tmps.size) (hy : ∀ v, (a.put (some d) v).eval y = .agg l.toArray)
    (h : ∀ c w2, w0.heap.size ≤ c → Rw w0 w2 → Blk w2 c t l → KW (a.put (some d) (.pointer (some ⟨c, 0, none⟩))) w2) : wpListD P ops w0 KW [oa, os] a w0 := by
  refine driftT_step (fun w1 h1' Q' hQ' => ?_)
  have hz1 : w0.heap.size ≤ w1.heap.size := h1'.size
  have hW : Below w0.heap.size w0 (w1.alloc (.cells old.toArray t)) := Below.alloc h1' hz1 _
  refine wpList_plain hga fun K1 hK1 => ?_
  unfold Oper.wp execOp
  simp only [ha, Sem.run_bind, hrun w1, Result.andThen_ok, Sem.run_pure, Oper.upon]
  refine hK1 _ _ (hQ' _ _ hW ?_)
  rw [hd]
  refine driftT_step (fun w3 h3 Q2 hQ2 => ?_)
  have hb : Blk w3 w1.heap.size t old := (Blk.new w1 t old).below h3 (by simp)
  have hW3 : Below w0.heap.size w0 w3 := Rw.trans hW h3
  refine store_blk (n := n) (ty := t) (t := t) (b := w1.heap.size) (old := old) (cs := l) hb hsz hl ho h1 hgs hs ?_ (hy _) ?_
  · show (a.put (some d) _).tmps.getD d undef = _
    simp [Act.put, hdt]
  · refine hQ2 _ _ (below_row hW3 _ _ hz1) ?_
    rw [hds]
    intro w4 h4
    have hb4 := hb.setRow l
    have hW4 := Rw.trans (show Rw w0 (w3.setRow w1.heap.size l.toArray) from below_row hW3 _ _ hz1) h4
    exact h w1.heap.size w4 hz1 hW4 (hb4.below h4 hb4.lt)
theorem drift_loadN {b off ty : Nat} {d : TypeDesc} {x : Operand} {cs : List Value} (hb : ∀ w, Rw w0 w → w.rangeAt b off cs)
    (hu : P.underlying ty = some d) (hd : d.isRow = true) (hi : (P.info? ty).map (·.size) = some cs.length) (hg : Region.wanted o (yielded ops a.tmps) = true) (ho : o.op = .load ty x) (hx : a.eval x = .pointer (some ⟨b, off, none⟩)) (h : K (a.put o.dst (.agg cs.toArray))) :
    if Region.wanted o (yielded ops a.tmps) then ∃ v, (∀ w, Rw w0 w → o.quietAt P a (Rw w) w v) ∧ K (a.put o.dst v) else K (a.put o.dst undef) :=
  drift_plain (.agg cs.toArray) hg (fun w hw => by
    unfold execOp
    simp only [ho, hx, run_loadAt_mid w b off ty cs _ (hb w hw) hu hd hi, Sem.run_bind, Sem.run_pure, Result.andThen_ok]) h
end
end Go.Proofs.YtcbkbjpdfanjpaaGreatDoor
