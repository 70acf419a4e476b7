/-
term: the reader's sign; count.
term: lists of terms in memory; Clone.
term: Reverse of two.
-/
import Derived.Lib.SliceRun
import Derived.Test.YtkhdhiddhnmdkaaGreatDoorPk40
import Derived.Test.YtkhdhiddhnmdkaaGreatDoorPk01
import Derived.Test.YtkhdhiddhnmdkaaGreatDoorPk04
namespace Go.Proofs.YtkhdhiddhnmdkaaGreatDoor
open Go.RowKit Tm
set_option maxRecDepth 100000
namespace Tv
def hd (x : UInt8) (l : S) : Bool := l.head? == some x
def tl (x : UInt8) (l : S) : S := if hd x l then l.tail else l
theorem pre_one (x : UInt8) (l : S) : Lib.hasPrefix l [x] = hd x l := by
  cases l with
  | nil => rfl
  | cons c r =>
    show [x].isPrefixOf (c :: r) = (some c == some x)
    by_cases h : c = x
    · subst h; simp [List.isPrefixOf]
    · have h2 : ¬ x = c := fun e => h e.symm
      simp [List.isPrefixOf]
      rw [beq_eq_false_iff_ne.2 h, beq_eq_false_iff_ne.2 h2]
theorem trim_one (x : UInt8) (l : S) : Lib.trimPrefix l [x] = tl x l := by
  unfold Lib.trimPrefix tl
  rw [pre_one]
  simp
set_option maxHeartbeats 2000000 in
theorem sign_ok (s : ByteArray) (x : UInt8) (r : Nat) (w : World) (hB : Blk w r tR [.string s]) :
    Calls Tryz.prog 27 #[.pointer (some ⟨r, 0, none⟩), .string ⟨#[x]⟩] w fun e w' =>
      e = .returned (.bool (hd x s.data.toList)) ∧ Blk w' r tR [.string (by8 (tl x s.data.toList))] ∧ Keeps (fun k => k = r) w w' := by
  have hc := hB.cell 0 (.string s) rfl
  have hf := hB.free 0
  have CP := Sh.strings_CutPrefix s ⟨#[x]⟩ w
  rw [show (ByteArray.mk #[x]).data.toList = [x] from rfl, pre_one, trim_one] at CP
  generalize hb : hd x s.data.toList = b at *
  have N0 := hB.set 0 (.string (by8 (tl x s.data.toList)))
  have K0 := (Keeps.refl (fun k => k = r) w).set r 0 (.string (by8 (tl x s.data.toList))) (fun _ => rfl)
  generalize hq : tl x s.data.toList = q at *
  go_enter Tryz.func27, Tryz.ntmps27
  go_wp2_with (go_at_call 49; refine CP.mono ?_; rintro e w' ⟨rfl, rfl⟩)
  go_ret
  exact ⟨rfl, N0, K0⟩
theorem beq_l {k m : S} (b : Bool) (h : (k = m) = (b = true)) : ((by8 k).toList == m) = b := by
  rw [ByteArray.toList_eq]
  show (k == m) = b
  cases b
  · exact beq_eq_false_iff_ne.2 (fun e => by rw [e] at h; exact absurd (h ▸ rfl) (by decide))
  · exact beq_iff_eq.2 (by rw [h])
theorem cnt_is (k : S) : (k = kHash ∨ k = kPoint ∨ k = kKey) ∧ cnt k = 1 ∨ (k = kPair ∨ k = kShare ∨ k = kSign ∨ k = kSeal) ∧ cnt k = 2 ∨ (k ≠ kHash ∧ k ≠ kPoint ∧ k ≠ kKey ∧ k ≠ kPair ∧ k ≠ kShare ∧ k ≠ kSign ∧ k ≠ kSeal) ∧ cnt k = 0 := by
  rcases cnt_le k with h | h | h
  · refine .inr (.inr ⟨?_, h⟩)
    refine ⟨?_, ?_, ?_, ?_, ?_, ?_, ?_⟩ <;> · rintro rfl; revert h; decide
  · have := of_cnt1 h
    simp only [kw1, List.mem_cons, List.not_mem_nil, or_false] at this
    exact .inl ⟨this, h⟩
  · have := of_cnt2 h
    simp only [kw2, List.mem_cons, List.not_mem_nil, or_false] at this
    exact .inr (.inl ⟨this, h⟩)
set_option maxHeartbeats 2000000 in
theorem count_ok (k : S) (w : World) : Calls Tryz.prog 28 #[.string (by8 k)] w fun e w' => e = .returned (.int .i64 (cnt k : Nat)) ∧ w' = w := by
  have hk := cnt_is k
  generalize hn : cnt k = n at *
  clear hn
  rcases hk with ⟨hk, rfl⟩ | ⟨hk, rfl⟩ | ⟨⟨n1, n2, n3, n4, n5, n6, n7⟩, rfl⟩
  · rcases hk with rfl | rfl | rfl
    · have e1 : ((by8 kHash).toList == [104, 97, 115, 104]) = true := by decide +kernel
      go_enter Tryz.func28, Tryz.ntmps28
      go_wp2_with fail
      go_ret
      exact ⟨rfl, rfl⟩
    · have e1 : ((by8 kPoint).toList == [104, 97, 115, 104]) = false := by decide +kernel
      have e2 : ((by8 kPoint).toList == [112, 111, 105, 110, 116]) = true := by decide +kernel
      go_enter Tryz.func28, Tryz.ntmps28
      go_wp2_with fail
      go_ret
      exact ⟨rfl, rfl⟩
    · have e1 : ((by8 kKey).toList == [104, 97, 115, 104]) = false := by decide +kernel
      have e2 : ((by8 kKey).toList == [112, 111, 105, 110, 116]) = false := by decide +kernel
      have e3 : ((by8 kKey).toList == [107, 101, 121]) = true := by decide +kernel
      go_enter Tryz.func28, Tryz.ntmps28
      go_wp2_with fail
      go_ret
      exact ⟨rfl, rfl⟩
  · rcases hk with rfl | rfl | rfl | rfl
    · have e1 : ((by8 kPair).toList == [104, 97, 115, 104]) = false := by decide +kernel
      have e2 : ((by8 kPair).toList == [112, 111, 105, 110, 116]) = false := by decide +kernel
      have e3 : ((by8 kPair).toList == [107, 101, 121]) = false := by decide +kernel
      have e4 : ((by8 kPair).toList == [112, 97, 105, 114]) = true := by decide +kernel
      go_enter Tryz.func28, Tryz.ntmps28
      go_wp2_with fail
      go_ret
      exact ⟨rfl, rfl⟩
    · have e1 : ((by8 kShare).toList == [104, 97, 115, 104]) = false := by decide +kernel
      have e2 : ((by8 kShare).toList == [112, 111, 105, 110, 116]) = false := by decide +kernel
      have e3 : ((by8 kShare).toList == [107, 101, 121]) = false := by decide +kernel
      have e4 : ((by8 kShare).toList == [112, 97, 105, 114]) = false := by decide +kernel
      have e5 : ((by8 kShare).toList == [115, 104, 97, 114, 101]) = true := by decide +kernel
      go_enter Tryz.func28, Tryz.ntmps28
      go_wp2_with fail
      go_ret
      exact ⟨rfl, rfl⟩
    · have e1 : ((by8 kSign).toList == [104, 97, 115, 104]) = false := by decide +kernel
      have e2 : ((by8 kSign).toList == [112, 111, 105, 110, 116]) = false := by decide +kernel
      have e3 : ((by8 kSign).toList == [107, 101, 121]) = false := by decide +kernel
      have e4 : ((by8 kSign).toList == [112, 97, 105, 114]) = false := by decide +kernel
      have e5 : ((by8 kSign).toList == [115, 104, 97, 114, 101]) = false := by decide +kernel
      have e6 : ((by8 kSign).toList == [115, 105, 103, 110]) = true := by decide +kernel
      go_enter Tryz.func28, Tryz.ntmps28
      go_wp2_with fail
      go_ret
      exact ⟨rfl, rfl⟩
    · have e1 : ((by8 kSeal).toList == [104, 97, 115, 104]) = false := by decide +kernel
      have e2 : ((by8 kSeal).toList == [112, 111, 105, 110, 116]) = false := by decide +kernel
      have e3 : ((by8 kSeal).toList == [107, 101, 121]) = false := by decide +kernel
      have e4 : ((by8 kSeal).toList == [112, 97, 105, 114]) = false := by decide +kernel
      have e5 : ((by8 kSeal).toList == [115, 104, 97, 114, 101]) = false := by decide +kernel
      have e6 : ((by8 kSeal).toList == [115, 105, 103, 110]) = false := by decide +kernel
      have e7 : ((by8 kSeal).toList == [115, 101, 97, 108]) = true := by decide +kernel
      go_enter Tryz.func28, Tryz.ntmps28
      go_wp2_with fail
      go_ret
      exact ⟨rfl, rfl⟩
  · have e1 : ((by8 k).toList == [104, 97, 115, 104]) = false := beq_l false (by simp [show k ≠ [104, 97, 115, 104] from n1])
    have e2 : ((by8 k).toList == [112, 111, 105, 110, 116]) = false := beq_l false (by simp [show k ≠ [112, 111, 105, 110, 116] from n2])
    have e3 : ((by8 k).toList == [107, 101, 121]) = false := beq_l false (by simp [show k ≠ [107, 101, 121] from n3])
    have e4 : ((by8 k).toList == [112, 97, 105, 114]) = false := beq_l false (by simp [show k ≠ [112, 97, 105, 114] from n4])
    have e5 : ((by8 k).toList == [115, 104, 97, 114, 101]) = false := beq_l false (by simp [show k ≠ [115, 104, 97, 114, 101] from n5])
    have e6 : ((by8 k).toList == [115, 105, 103, 110]) = false := beq_l false (by simp [show k ≠ [115, 105, 103, 110] from n6])
    have e7 : ((by8 k).toList == [115, 101, 97, 108]) = false := beq_l false (by simp [show k ≠ [115, 101, 97, 108] from n7])
    go_enter Tryz.func28, Tryz.ntmps28
    go_wp2_with fail
    go_ret
    exact ⟨rfl, rfl⟩
end Tv
end Go.Proofs.YtkhdhiddhnmdkaaGreatDoor

namespace Go.Proofs.YtkhdhiddhnmdkaaGreatDoor
open Go.RowKit Tm
set_option maxRecDepth 100000
namespace Tv
abbrev tT : TypeId := 25
abbrev tTs : TypeId := 23
abbrev Row := S × S × Value
def tmv (k t : S) (v : Value) : Value := .agg #[.string (by8 k), .string (by8 t), v]
def tc (l : List Row) : List Value := l.flatMap fun x => [.string (by8 x.1), .string (by8 x.2.1), x.2.2]
theorem tc_len (l : List Row) : (tc l).length = l.length * 3 := by
  induction l with
  | nil => rfl
  | cons x r ih =>
    show ([Value.string (by8 x.1), .string (by8 x.2.1), x.2.2] ++ tc r).length = (r.length + 1) * 3
    rw [List.length_append, ih]
    show 3 + _ = _
    omega
theorem tc_app (a b : List Row) : tc (a ++ b) = tc a ++ tc b := by simp [tc]
theorem tc_get (l : List Row) (i : Nat) (x : Row) (h : l[i]? = some x) : (tc l)[i * 3]? = some (.string (by8 x.1)) ∧ (tc l)[i * 3 + 1]? = some (.string (by8 x.2.1)) ∧ (tc l)[i * 3 + 2]? = some x.2.2 := by
  induction l generalizing i with
  | nil => cases h
  | cons y r ih =>
    cases i with
    | zero =>
      obtain rfl := Option.some.inj h
      exact ⟨rfl, rfl, rfl⟩
    | succ i =>
      obtain ⟨h1, h2, h3⟩ := ih i h
      have e : ∀ j, (tc (y :: r))[j + 3]? = (tc r)[j]? := fun j => rfl
      rw [show (i + 1) * 3 = i * 3 + 3 by omega, show i * 3 + 3 + 1 = (i * 3 + 1) + 3 by omega, show i * 3 + 3 + 2 = (i * 3 + 2) + 3 by omega, e, e, e]
      exact ⟨h1, h2, h3⟩
/-- a list of terms -/
structure PT (w : World) (v : Value) (l : List Row) : Prop where
  sg : Sg w 3 v l.length (tc l)
  sl : ∀ x ∈ l, ∃ a n c, x.2.2 = .slice a n c
theorem PT.one {w : World} {v : Value} {l : List Row} (h : PT w v l) : ∀ y ∈ tc l, y.oneCell' = true := by
  intro y hy
  obtain ⟨x, hx, hm⟩ := List.mem_flatMap.1 hy
  obtain ⟨a, n, c, e⟩ := h.sl x hx
  simp only [List.mem_cons, List.not_mem_nil, or_false] at hm
  rcases hm with rfl | rfl | rfl
  · rfl
  · rfl
  · rw [e]; rfl
theorem PT.below {w w' : World} {v : Value} {l : List Row} (h : PT w v l) (hb : Below w.heap.size w w') : PT w' v l := ⟨h.sg.below hb, h.sl⟩
theorem PT.nil (w : World) : PT w (.slice none 0 0) [] := ⟨Sg.nil w 3, fun x hx => by cases hx⟩
theorem termInfo : (Tryz.prog.info? tT).map (fun i => (i.zero, i.size, i.bytes)) = some (some (.agg #[.string ⟨#[]⟩, .string ⟨#[]⟩, .slice none 0 0]), 3, 56) := by kernel_rfl
theorem t_size : (Tryz.prog.info? tT).map (·.size) = some 3 := by kernel_rfl
set_option maxHeartbeats 2000000 in
theorem clone_ok (v : Value) (l : List Row) (w : World) (hp : PT w v l) (hn : 0 < l.length) (hl : l.length ≤ 100) :
    Calls Tryz.prog 17 #[v] w fun e w' => ∃ v', e = .returned v' ∧ PT w' v' l ∧ (∀ g, vblk v' = some g → w.heap.size ≤ g) ∧ Below w.heap.size w w' := by
  obtain ⟨g, off, cap, rfl, hnc, hcm, hvb, hgl, hcell, _⟩ := hp.sg.open hn
  obtain ⟨j0, hj, hj0, hj1, hj2⟩ := info_parts termInfo
  have J := Lib.hid hj
  have J0 := Lib.hid hj0
  have J1 := Lib.hid hj1
  have J2 := Lib.hid hj2
  clear hj hj0 hj1 hj2
  have q : ∀ (w : World) (a : Option Addr) (n c n' c' : Nat), (binOp .eql tTs (.slice a n c) (.slice none n' c')).run Tryz.prog w = .ok (.bool a.isNone) w := fun w a n c n' c' => Lib.run_eql_slice_nil w _ _ a n c n' c' Tryz.underlying23
  have HP := Lib.hid hp
  clear hp
  go_enter Tryz.func17, Tryz.ntmps17
  have SG0 : ∀ (w : World) b, Sg w 3 (.slice (some ⟨b, 0, none⟩) 0 0) 0 [] := fun w b => ⟨by simp, _, 0, rfl, Nat.le_refl _, Nat.zero_le _, .inl rfl⟩
  have SG0' := SG0 (w.alloc (.cells #[] tT)) w.heap.size
  have SGL := (HP.out.below (below1 w (.cells #[] tT))).sg
  have B1 := below1 w (.cells #[] tT)
  have m1 : 0 + l.length ≤ maxLen := by unfold maxLen; omega
  have m2 : (0 + l.length) * 56 ≤ 140737488355328 := by omega
  have ONE := HP.out.one
  go_wp2_with (at_builtin; refine wpList_append_any _ rfl (.tmp 5) (.tmp 6) tTs rfl tT j0 (.agg #[.string ⟨#[]⟩, .string ⟨#[]⟩, .slice none 0 0]) 3 56 Tryz.underlying23 J.out J0.out J1.out J2.out rfl (by decide) _ 0 [] rfl SG0' _ l.length (tc l) rfl SGL ONE m1 m2 ?grow)
  case grow =>
    intro v' w1 hs hv hk
    have hk0 : ∀ k, ¬ vblk (.slice (some ⟨w.heap.size, 0, none⟩) 0 0) = some k := fun k => by simp [vblk]
    have hb : Below (w.alloc (.cells #[] tT)).heap.size (w.alloc (.cells #[] tT)) w1 := hk.below (Nat.le_refl _) (fun k _ h => absurd h (hk0 k))
    go_wp2_with fail
    go_ret
    refine ⟨v', rfl, ⟨by simpa using hs, HP.out.sl⟩, fun g hg => ?_, B1.trans (hb.mono (by simp))⟩
    rcases hv g hg with h | h
    · exact absurd h (hk0 g)
    · have : w.heap.size ≤ (w.alloc (.cells #[] tT)).heap.size := B1.size
      omega
end Tv
end Go.Proofs.YtkhdhiddhnmdkaaGreatDoor

namespace Go.Proofs.YtkhdhiddhnmdkaaGreatDoor
open Go.RowKit Tm
set_option maxRecDepth 100000
namespace Tv
theorem PT.cells {w : World} {g off cap : Nat} {l : List Row} (h : PT w (.slice (some ⟨g, off, none⟩) l.length cap) l) (hn : 0 < l.length) (i : Nat) (x : Row) (hx : l[i]? = some x) :
    w.rangeAt g (off + i * 3) [.string (by8 x.1), .string (by8 x.2.1), x.2.2] ∧ w.there g (off + i * 3) 3 := by
  obtain ⟨g', off', cap', e, _, _, _, _, hc, _⟩ := h.sg.open hn
  simp only [Value.slice.injEq, Option.some.injEq, Addr.mk.injEq] at e
  obtain ⟨⟨rfl, rfl, _⟩, _, _⟩ := e
  have hi : i < l.length := (List.getElem?_eq_some_iff.1 hx).1
  obtain ⟨h1, h2, h3⟩ := tc_get l i x hx
  have q0 := hc (i * 3) (by omega)
  have q1 := hc (i * 3 + 1) (by omega)
  have q2 := hc (i * 3 + 2) (by omega)
  constructor
  · intro j v hj
    match j, hj with
    | 0, hj => rw [← hj, Nat.add_zero]; exact q0.1.trans h1
    | 1, hj => rw [← hj, Nat.add_assoc]; exact q1.1.trans h2
    | 2, hj => rw [← hj, Nat.add_assoc]; exact q2.1.trans h3
    | j + 3, hj => cases hj
  · intro j hj
    match j, hj with
    | 0, _ => rw [Nat.add_zero]; exact ⟨by rw [q0.1, h1]; rfl, q0.2⟩
    | 1, _ => rw [Nat.add_assoc]; exact ⟨by rw [q1.1, h2]; rfl, q1.2⟩
    | 2, _ => rw [Nat.add_assoc]; exact ⟨by rw [q2.1, h3]; rfl, q2.2⟩
theorem PT.put {w : World} {g off cap : Nat} {l : List Row} (h : PT w (.slice (some ⟨g, off, none⟩) l.length cap) l) (i : Nat) (hi : i < l.length) (x : Row) (hx : ∃ a n c, x.2.2 = .slice a n c) :
    PT (w.setCells g (off + i * 3) [.string (by8 x.1), .string (by8 x.2.1), x.2.2]) (.slice (some ⟨g, off, none⟩) l.length cap) (l.set i x) := by
  have hn : 0 < l.length := by omega
  have hli : l[i]? = some l[i] := List.getElem?_eq_getElem hi
  have hth := (h.cells hn i _ hli).2
  have hsame := World.rangeAt_setCells_same w g (off + i * 3) [.string (by8 x.1), .string (by8 x.2.1), x.2.2] hth
  have hrow : ∀ q y, (l.set i x)[q]? = some y → (w.setCells g (off + i * 3) [.string (by8 x.1), .string (by8 x.2.1), x.2.2]).rangeAt g (off + q * 3) [.string (by8 y.1), .string (by8 y.2.1), y.2.2] := fun q y hq => by
    by_cases hqi : q = i
    · subst hqi
      rw [List.getElem?_set_self hi] at hq
      obtain rfl := Option.some.inj hq
      exact hsame
    · rw [List.getElem?_set_ne (Ne.symm hqi)] at hq
      refine World.rangeAt_setCells_apart (h.cells hn q y hq).1 g (off + i * 3) _ (.inr ?_)
      simp only [List.length_cons, List.length_nil]
      omega
  have hk := keeps_setCells g [.string (by8 x.1), .string (by8 x.2.1), x.2.2] (off + i * 3) w
  have hlen : (l.set i x).length = l.length := List.length_set
  constructor
  · obtain ⟨_, ao, cap', e, h1, h2, h3⟩ := h.sg
    simp only [Value.slice.injEq] at e
    obtain ⟨rfl, _, rfl⟩ := e
    refine ⟨tc_len _, some ⟨g, off, none⟩, cap, by rw [hlen], by omega, h2, .inr ?_⟩
    rcases h3 with h0 | ⟨g', off', e', hg, hc, _⟩
    · omega
    · simp only [Option.some.injEq, Addr.mk.injEq] at e'
      obtain ⟨rfl, rfl, _⟩ := e'
      refine ⟨g, off, rfl, Nat.lt_of_lt_of_le hg hk.size, fun j hj => ?_, fun j hj => ?_⟩
      · have ht : w.there g (off + j) 1 := fun k hk => by
          obtain rfl : k = 0 := by omega
          exact hc j hj
        exact (World.there_setCells ht g (off + i * 3) _) 0 (by omega)
      · have e3 : j = j / 3 * 3 + j % 3 := by omega
        have hq : j / 3 < (l.set i x).length := by omega
        have hy := List.getElem?_eq_getElem hq
        obtain ⟨t0, t1, t2⟩ := tc_get _ _ _ hy
        have hr := hrow _ _ hy
        have hm : j % 3 = 0 ∨ j % 3 = 1 ∨ j % 3 = 2 := by omega
        rcases hm with hm | hm | hm
        · rw [e3, hm, Nat.add_zero, t0]; exact hr 0 _ rfl
        · rw [e3, hm, t1, ← Nat.add_assoc]; exact hr 1 _ rfl
        · rw [e3, hm, t2, ← Nat.add_assoc]; exact hr 2 _ rfl
  · intro y hy
    rcases List.mem_or_eq_of_mem_set hy with h' | rfl
    · exact h.sl y h'
    · exact hx
theorem set_first {w : World} {g off cap : Nat} {x y : Row} (h : PT w (.slice (some ⟨g, off, none⟩) 2 cap) [x, y]) (u : Row) (hu : ∃ a n c, u.2.2 = .slice a n c) : PT (w.setCells g off [.string (by8 u.1), .string (by8 u.2.1), u.2.2]) (.slice (some ⟨g, off, none⟩) 2 cap) [u, y] := by
  have := PT.put (l := [x, y]) h 0 (by show 0 < 2; omega) u hu
  rw [Nat.zero_mul, Nat.add_zero] at this
  exact this
theorem set_second {w : World} {g off cap : Nat} {x y : Row} (h : PT w (.slice (some ⟨g, off, none⟩) 2 cap) [x, y]) (u : Row) (hu : ∃ a n c, u.2.2 = .slice a n c) : PT (w.setCells g (off + 3) [.string (by8 u.1), .string (by8 u.2.1), u.2.2]) (.slice (some ⟨g, off, none⟩) 2 cap) [x, u] := by
  have := PT.put (l := [x, y]) h 1 (by show 1 < 2; omega) u hu
  rw [Nat.one_mul] at this
  exact this
theorem one (x : Row) (hx : ∃ a n c, x.2.2 = .slice a n c) : (#[Value.string (by8 x.1), .string (by8 x.2.1), x.2.2] : Array Value).all (·.oneCell') = true := by
  obtain ⟨a, n, c, e⟩ := hx
  rw [e]
  refine all_oneCell_toArray (cs := [.string (by8 x.1), .string (by8 x.2.1), .slice a n c]) ?_
  intro v hv
  simp only [List.mem_cons, List.not_mem_nil, or_false] at hv
  rcases hv with rfl | rfl | rfl <;> rfl
set_option maxHeartbeats 4000000 in
theorem reverse_ok (g off cap : Nat) (x y : Row) (w : World) (hp : PT w (.slice (some ⟨g, off, none⟩) 2 cap) [x, y]) :
    Calls Tryz.prog 50 #[.slice (some ⟨g, off, none⟩) 2 cap] w fun e w' => e = .returned (.tuple #[]) ∧ PT w' (.slice (some ⟨g, off, none⟩) 2 cap) [y, x] ∧ Keeps (fun k => k = g) w w' := by
  have hx := hp.sl x (by simp)
  have hy := hp.sl y (by simp)
  obtain ⟨cx, tx⟩ := PT.cells (l := [x, y]) hp (by show 0 < 2; omega) 0 x rfl
  obtain ⟨cy, ty⟩ := PT.cells (l := [x, y]) hp (by show 0 < 2; omega) 1 y rfl
  go_enter Tryz.func50, Tryz.ntmps50
  go_wp2_with fail
  go_loopw [2, 3] (fun v2 v3 wr => (v2 = .int .i64 0 ∧ v3 = .int .i64 1 ∧ wr = w) ∨ (v2 = .int .i64 1 ∧ v3 = .int .i64 0 ∧ PT wr (.slice (some ⟨g, off, none⟩) 2 cap) [y, x] ∧ Keeps (fun k => k = g) w wr)) (fun _ v3 _ => (intOf v3).toNat)
  case atStart => exact .inl ⟨rfl, rfl, rfl⟩
  case round =>
    rcases hrel with ⟨rfl, rfl, rfl⟩ | ⟨rfl, rfl, hp2, hk⟩
    · go_upto_region 3 with fail
      have Dr : Below wr.heap.size wr wr.drew := below_drewN (Below.refl _ _) 1
      have H := Lib.hid (And.intro hp (And.intro cx (And.intro cy (And.intro tx ty))))
      have cxd : ∀ w', Below wr.drew.heap.size wr.drew w' → w'.rangeAt g (off + 0 * 3) [.string (by8 x.1), .string (by8 x.2.1), x.2.2] := fun w' hb => (PT.cells (l := [x, y]) ((hp.below Dr).below hb) (by show 0 < 2; omega) 0 x rfl).1
      have cyd : ∀ w', Below wr.drew.heap.size wr.drew w' → w'.rangeAt g (off + 1 * 3) [.string (by8 y.1), .string (by8 y.2.1), y.2.2] := fun w' hb => (PT.cells (l := [x, y]) ((hp.below Dr).below hb) (by show 0 < 2; omega) 1 y rfl).1
      rw [Nat.zero_mul, Nat.add_zero] at cxd
      rw [Nat.one_mul] at cyd
      clear cx cy tx ty
      refine Pl.wp_region_tree (fun k => k = g) (.head 0 (.head 1 (.head 2 (.head 3 (.head 4 (.head 5 (.head 6 (.head 8 (.head 9 (.head 10 (.fork 7 (.sole 11 (.head 12 (.sole 13 (.head 14 (.sole 15 .done))))) 11 (.sole 7 (.head 12 (.sole 13 (.head 14 (.sole 15 .done)))))))))))))))) (by kernel_rfl) (by kernel_rfl) ?_
      (refine Pl.tree_head (i := 0) rfl (fun K hK => ?_); refine Pl.plan_plain (.slice (some ⟨g, off, none⟩) 2 cap) (by first | rfl | simp [Region.wanted, yielded]) (fun w' hw' => by go_simp) ?_; go_simp; (with_reducible apply hK); clear hK K)
      (refine Pl.tree_head (i := 1) rfl (fun K hK => ?_); refine Pl.plan_plain (.int .i64 0) (by first | rfl | simp [Region.wanted, yielded]) (fun w' hw' => by go_simp) ?_; go_simp; (with_reducible apply hK); clear hK K)
      (refine Pl.tree_head (i := 2) rfl (fun K hK => ?_); refine Pl.plan_plain (.slice (some ⟨g, off, none⟩) 2 cap) (by first | rfl | simp [Region.wanted, yielded]) (fun w' hw' => by go_simp) ?_; go_simp; (with_reducible apply hK); clear hK K)
      (refine Pl.tree_head (i := 3) rfl (fun K hK => ?_); refine Pl.plan_plain (.int .i64 1) (by first | rfl | simp [Region.wanted, yielded]) (fun w' hw' => by go_simp) ?_; go_simp; (with_reducible apply hK); clear hK K)
      (refine Pl.tree_head (i := 4) rfl (fun K hK => ?_); refine Pl.plan_plain (.slice (some ⟨g, off, none⟩) 2 cap) (by first | rfl | simp [Region.wanted, yielded]) (fun w' hw' => by go_simp) ?_; go_simp; (with_reducible apply hK); clear hK K)
      (refine Pl.tree_head (i := 5) rfl (fun K hK => ?_); refine Pl.plan_plain (.int .i64 1) (by first | rfl | simp [Region.wanted, yielded]) (fun w' hw' => by go_simp) ?_; go_simp; (with_reducible apply hK); clear hK K)
      (refine Pl.tree_head (i := 6) rfl (fun K hK => ?_); refine Pl.plan_plain (.pointer (some ⟨g, off + 3, none⟩)) (by first | rfl | simp [Region.wanted, yielded]) (fun w' hw' => by go_simp) ?_; go_simp; (with_reducible apply hK); clear hK K)
      (refine Pl.tree_head (i := 8) rfl (fun K hK => ?_); refine Pl.plan_plain (.slice (some ⟨g, off, none⟩) 2 cap) (by first | rfl | simp [Region.wanted, yielded]) (fun w' hw' => by go_simp) ?_; go_simp; (with_reducible apply hK); clear hK K)
      (refine Pl.tree_head (i := 9) rfl (fun K hK => ?_); refine Pl.plan_plain (.int .i64 0) (by first | rfl | simp [Region.wanted, yielded]) (fun w' hw' => by go_simp) ?_; go_simp; (with_reducible apply hK); clear hK K)
      (refine Pl.tree_head (i := 10) rfl (fun K hK => ?_); refine Pl.plan_plain (.pointer (some ⟨g, off, none⟩)) (by first | rfl | simp [Region.wanted, yielded]) (fun w' hw' => by go_simp) ?_; go_simp; (with_reducible apply hK); clear hK K)
      refine Pl.tree_fork rfl rfl (fun w1 h1 Q hQ => ?_) (fun w1 h1 Q hQ => ?_)
      · refine wpList_load_mid rfl tT _ rfl g (off + 3) (by go_simp) [.string (by8 y.1), .string (by8 y.2.1), y.2.2] _ (cyd _ h1) Tryz.underlying25 rfl t_size ?_
        unfold wpList
        refine hQ _ _ (Keeps.of_below h1) ?_
        clear hQ Q
        go_simp
        refine Pl.tree_sole (i := 11) rfl (fun w2 h2 Q hQ => ?_)
        have r2 := Rw.trans h1 h2
        refine wpList_load_mid rfl tT _ rfl g off (by go_simp) [.string (by8 x.1), .string (by8 x.2.1), x.2.2] _ (cxd _ r2) Tryz.underlying25 rfl t_size ?_
        unfold wpList
        refine hQ _ _ (Keeps.of_below r2) ?_
        clear hQ Q
        go_simp
        (refine Pl.tree_head (i := 12) rfl (fun K hK => ?_); refine Pl.plan_plain (.pointer (some ⟨g, off, none⟩)) (by first | rfl | simp [Region.wanted, yielded]) (fun w' hw' => by go_simp) ?_; go_simp; (with_reducible apply hK); clear hK K)
        refine Pl.tree_sole (i := 13) rfl (fun w3 h3 Q hQ => ?_)
        have r3 := Rw.trans r2 h3
        have p3 := (hp.below Dr).below r3
        have t3 := (PT.cells (l := [x, y]) p3 (by show 0 < 2; omega) 0 x rfl).2
        rw [Nat.zero_mul, Nat.add_zero] at t3
        refine wpList_store_mid rfl tT _ _ rfl g off #[.string (by8 y.1), .string (by8 y.2.1), y.2.2] (by go_simp) (by go_simp) t3 t_size (one y hy) ?_
        unfold wpList
        have p4 := set_first p3 y hy
        have k4 := (Keeps.of_below (F := fun k => k = g) r3).trans (keeps_setCells g [.string (by8 y.1), .string (by8 y.2.1), y.2.2] off w3) (fun _ _ h => h)
        refine hQ _ _ k4 ?_
        clear hQ Q
        generalize hw4 : w3.setCells g off _ = w4 at *
        go_simp
        (refine Pl.tree_head (i := 14) rfl (fun K hK => ?_); refine Pl.plan_plain (.pointer (some ⟨g, off + 3, none⟩)) (by first | rfl | simp [Region.wanted, yielded]) (fun w' hw' => by go_simp) ?_; go_simp; (with_reducible apply hK); clear hK K)
        refine Pl.tree_sole (i := 15) rfl (fun w5 h5 Q hQ => ?_)
        have p5 := p4.below h5
        have t5 := (PT.cells (l := [y, y]) p5 (by show 0 < 2; omega) 1 y rfl).2
        rw [Nat.one_mul] at t5
        refine wpList_store_mid rfl tT _ _ rfl g (off + 3) #[.string (by8 x.1), .string (by8 x.2.1), x.2.2] (by go_simp) (by go_simp) t5 t_size (one x hx) ?_
        unfold wpList
        have p6 := set_second p5 x hx
        have k6 := (k4.rw h5).trans (keeps_setCells g [.string (by8 x.1), .string (by8 x.2.1), x.2.2] (off + 3) w5) (fun _ _ h => h)
        refine hQ _ _ k6 ?_
        clear hQ Q
        refine Pl.tree_done (fun w7 h7 => ?_)
        have p7 := p6.below h7
        have k7 := (Keeps.of_below (F := fun k => k = g) Dr).trans (k6.rw h7) (fun _ _ h => h)
        go_simp
        go_wp2_with fail
        go_roundw
        case rel => exact .inr ⟨rfl, rfl, p7, k7⟩
        case measure => simp [intOf]
      · refine wpList_load_mid rfl tT _ rfl g off (by go_simp) [.string (by8 x.1), .string (by8 x.2.1), x.2.2] _ (cxd _ h1) Tryz.underlying25 rfl t_size ?_
        unfold wpList
        refine hQ _ _ (Keeps.of_below h1) ?_
        clear hQ Q
        go_simp
        refine Pl.tree_sole (i := 7) rfl (fun w2 h2 Q hQ => ?_)
        have r2 := Rw.trans h1 h2
        refine wpList_load_mid rfl tT _ rfl g (off + 3) (by go_simp) [.string (by8 y.1), .string (by8 y.2.1), y.2.2] _ (cyd _ r2) Tryz.underlying25 rfl t_size ?_
        unfold wpList
        refine hQ _ _ (Keeps.of_below r2) ?_
        clear hQ Q
        go_simp
        (refine Pl.tree_head (i := 12) rfl (fun K hK => ?_); refine Pl.plan_plain (.pointer (some ⟨g, off, none⟩)) (by first | rfl | simp [Region.wanted, yielded]) (fun w' hw' => by go_simp) ?_; go_simp; (with_reducible apply hK); clear hK K)
        refine Pl.tree_sole (i := 13) rfl (fun w3 h3 Q hQ => ?_)
        have r3 := Rw.trans r2 h3
        have p3 := (hp.below Dr).below r3
        have t3 := (PT.cells (l := [x, y]) p3 (by show 0 < 2; omega) 0 x rfl).2
        rw [Nat.zero_mul, Nat.add_zero] at t3
        refine wpList_store_mid rfl tT _ _ rfl g off #[.string (by8 y.1), .string (by8 y.2.1), y.2.2] (by go_simp) (by go_simp) t3 t_size (one y hy) ?_
        unfold wpList
        have p4 := set_first p3 y hy
        have k4 := (Keeps.of_below (F := fun k => k = g) r3).trans (keeps_setCells g [.string (by8 y.1), .string (by8 y.2.1), y.2.2] off w3) (fun _ _ h => h)
        refine hQ _ _ k4 ?_
        clear hQ Q
        generalize hw4 : w3.setCells g off _ = w4 at *
        go_simp
        (refine Pl.tree_head (i := 14) rfl (fun K hK => ?_); refine Pl.plan_plain (.pointer (some ⟨g, off + 3, none⟩)) (by first | rfl | simp [Region.wanted, yielded]) (fun w' hw' => by go_simp) ?_; go_simp; (with_reducible apply hK); clear hK K)
        refine Pl.tree_sole (i := 15) rfl (fun w5 h5 Q hQ => ?_)
        have p5 := p4.below h5
        have t5 := (PT.cells (l := [y, y]) p5 (by show 0 < 2; omega) 1 y rfl).2
        rw [Nat.one_mul] at t5
        refine wpList_store_mid rfl tT _ _ rfl g (off + 3) #[.string (by8 x.1), .string (by8 x.2.1), x.2.2] (by go_simp) (by go_simp) t5 t_size (one x hx) ?_
        unfold wpList
        have p6 := set_second p5 x hx
        have k6 := (k4.rw h5).trans (keeps_setCells g [.string (by8 x.1), .string (by8 x.2.1), x.2.2] (off + 3) w5) (fun _ _ h => h)
        refine hQ _ _ k6 ?_
        clear hQ Q
        refine Pl.tree_done (fun w7 h7 => ?_)
        have p7 := p6.below h7
        have k7 := (Keeps.of_below (F := fun k => k = g) Dr).trans (k6.rw h7) (fun _ _ h => h)
        go_simp
        go_wp2_with fail
        go_roundw
        case rel => exact .inr ⟨rfl, rfl, p7, k7⟩
        case measure => simp [intOf]
    · go_wp2_with fail
      go_end0
      exact ⟨rfl, hp2, hk⟩
end Tv
end Go.Proofs.YtkhdhiddhnmdkaaGreatDoor
