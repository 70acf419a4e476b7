/-
HelloLines answers true.
HelloReads answers true.
message.Parse: names read; the message that is being built.
-/
import Derived.Test.YtcbkbjpdfanjpaaGreatDoorPk34
import Derived.Test.YtcbkbjpdfanjpaaGreatDoorPk27
import Derived.Test.YtcbkbjpdfanjpaaGreatDoorPk28
namespace Go.Proofs.YtcbkbjpdfanjpaaGreatDoor
open Go.RowKit HelP
set_option maxRecDepth 100000
theorem ok_of_word {t : List UInt8} (h : wordL t = true) {c : UInt8} (hc : c ∈ t) : okC c = true := by
  unfold wordL at h
  simp only [Bool.and_eq_true] at h
  exact List.all_eq_true.1 h.1.1 c hc
theorem word_not {t : List UInt8} (h : wordL t = true) (c : UInt8) (hc : okC c = false) : c ∉ t := fun hm => by
  rw [ok_of_word h hm] at hc
  cases hc
theorem word_len {t : List UInt8} (h : wordL t = true) : t.length ≤ 64 := by
  unfold wordL at h
  simp only [Bool.and_eq_true, decide_eq_true_eq] at h
  exact h.2
theorem now_not {t : List UInt8} (h : wordL t = true) (c : UInt8) (hc : okC c = false) (hn : c ∉ now) : c ∉ now ++ t := by
  rw [List.mem_append, not_or]
  exact ⟨hn, word_not h c hc⟩
theorem run_own (t : List UInt8) (h : wordL t = true) (m : Nat) : run (now ++ t ++ [13, 10]) (.wait [] m) = (.done (now ++ t), []) := by
  have hl := word_len h
  have e : now ++ t ++ [13, 10] = (now ++ t ++ [13]) ++ 10 :: [] := by simp
  have hln : (now ++ t ++ [13]).length = t.length + 9 := by simp [now]
  rw [e, run_line m [] (now ++ t ++ [13]) [] (by
    rw [List.mem_append, not_or]
    exact ⟨now_not h 10 (by decide) (by decide), by decide⟩) (Nat.zero_le _) (by rw [List.nil_append, hln]; omega), List.nil_append]
  have ht : trimR (now ++ t ++ [13]) = now ++ t := by
    unfold trimR
    rw [if_pos (by rw [List.isSuffixOf_iff_suffix]; exact List.suffix_append _ _), hln]
    have : (now ++ t).length = t.length + 8 := by simp [now]
    rw [show t.length + 9 - 1 = (now ++ t).length by omega, List.take_left]
  have hv : verOk (now ++ t) = true := by
    unfold verOk
    rw [if_pos (show now.isPrefixOf (now ++ t) = true from rfl)]
    rw [show (now ++ t).drop 8 = t from rfl, upTo_not (word_not h 32 (by decide)), h]
  rw [ht]
  unfold lineSt
  rw [if_neg (now_not h 0 (by decide) (by decide)), if_pos (show ssh.isPrefixOf (now ++ t) = true from rfl), if_pos hv]
  rfl
end Go.Proofs.YtcbkbjpdfanjpaaGreatDoor

namespace Go.Proofs.YtcbkbjpdfanjpaaGreatDoor
open Go.RowKit HelP
set_option maxRecDepth 100000
theorem run_rest : ∀ (l : List UInt8) (s : St), doneB (run l s).1 = false → (run l s).2 = []
  | [], _, _ => rfl
  | c :: cs, .wait p m, h => by
    have e : run (c :: cs) (.wait p m) = if c = 10 then run cs (lineSt (trimR p) m) else if 254 < p.length + 1 then run cs (.err 4) else run cs (.wait (p ++ [c]) m) := rfl
    rw [e] at h ⊢
    by_cases h1 : c = 10
    · rw [if_pos h1] at h ⊢; exact run_rest cs _ h
    · rw [if_neg h1] at h ⊢
      by_cases h2 : 254 < p.length + 1
      · rw [if_pos h2] at h ⊢; exact run_rest cs _ h
      · rw [if_neg h2] at h ⊢; exact run_rest cs _ h
  | c :: cs, .done q, h => by cases h
  | c :: cs, .err e, h => run_rest cs (.err e) h
theorem run_len : ∀ (l : List UInt8) (s : St), (run l s).2.length ≤ l.length
  | [], _ => Nat.le_refl _
  | c :: cs, .wait p m => by
    have e : run (c :: cs) (.wait p m) = if c = 10 then run cs (lineSt (trimR p) m) else if 254 < p.length + 1 then run cs (.err 4) else run cs (.wait (p ++ [c]) m) := rfl
    rw [e]
    by_cases h1 : c = 10
    · rw [if_pos h1]; exact Nat.le_succ_of_le (run_len cs _)
    · rw [if_neg h1]
      by_cases h2 : 254 < p.length + 1
      · rw [if_pos h2]; exact Nat.le_succ_of_le (run_len cs _)
      · rw [if_neg h2]; exact Nat.le_succ_of_le (run_len cs _)
  | c :: cs, .done q => Nat.le_refl _
  | c :: cs, .err e => Nat.le_succ_of_le (run_len cs (.err e))
/-- what is left, so far as one is done -/
def restL : St × List UInt8 → List UInt8
  | (.done _, r) => r
  | _ => []
def codeL : St → Nat
  | .err c => c
  | _ => 0
theorem ans_eq (x : St × List UInt8) : ansL x.1 x.2 = .agg #[.string (bs (peerL x.1)), .string (bs (restL x)), .int .i64 (codeL x.1 : Nat)] := by
  obtain ⟨s, r⟩ := x
  cases s <;> rfl
/-- the way of the reading: in st, with L left over, T to come -/
structure Inv (st : St) (L T : List UInt8) (R : St × List UInt8) : Prop where
  run : cont T (st, L) = R
  left : doneB st = false → L = []
  ok : ∀ c, st ≠ .err c
  fits : fit st
theorem inv_step {st : St} {L T : List UInt8} {R : St × List UInt8} (h : Inv st L T R) (n : Nat) :
    (∃ c, (run (T.take n) st).1 = .err c ∧ (run (T.take n) st).2 = [] ∧ R = (.err c, []) ∧ (c = 3 ∨ c = 4 ∨ c = 12)) ∨
    (Inv (run (T.take n) st).1 (L ++ (run (T.take n) st).2) (T.drop n) R ∧ (∀ ad, resL ad (run (T.take n) st).1 = .nilIface) ∧
      ((doneB st = true ∧ doneB (run (T.take n) st).1 = true ∧ (run (T.take n) st).2 = T.take n) ∨ (doneB st = false ∧ doneB (run (T.take n) st).1 = true) ∨ (doneB st = false ∧ doneB (run (T.take n) st).1 = false ∧ (run (T.take n) st).2 = []))) := by
  have hf := fit_run (T.take n) st h.fits
  cases st with
  | err c => exact absurd rfl (h.ok c)
  | done q =>
    right
    have hr := h.run
    rw [run_done]
    refine ⟨⟨?_, fun h => (by cases h), fun c h => (by cases h), h.fits⟩, fun _ => rfl, .inl ⟨rfl, rfl, rfl⟩⟩
    rw [← hr]
    show ((.done q, (L ++ T.take n) ++ T.drop n) : St × List UInt8) = (.done q, L ++ T)
    rw [List.append_assoc, List.take_append_drop]
  | wait p m =>
    have hL := h.left rfl
    subst hL
    have hr : run T (.wait p m) = R := h.run
    rw [← List.take_append_drop n T, run_app] at hr
    have hrest := run_rest (T.take n) (.wait p m)
    cases hx : run (T.take n) (.wait p m) with
    | mk s1 G =>
      rw [hx] at hr hrest hf
      cases s1 with
      | err c =>
        left
        have hr2 : run (T.drop n) (.err c) = R := hr
        rw [run_err] at hr2
        exact ⟨c, rfl, hrest rfl, hr2.symm, hf⟩
      | done q =>
        right
        exact ⟨⟨hr, fun h => (by cases h), fun c h => (by cases h), hf⟩, fun _ => rfl, .inr (.inl ⟨rfl, rfl⟩)⟩
      | wait p' m' =>
        right
        have hG := hrest rfl
        have hG' : G = [] := hG
        subst hG'
        exact ⟨⟨hr, fun _ => rfl, fun c h => (by cases h), hf⟩, fun _ => rfl, .inr (.inr ⟨rfl, rfl, rfl⟩)⟩
theorem inv_end {st : St} {L : List UInt8} {R : St × List UInt8} (h : Inv st L [] R) : peerL R.1 = peerL st ∧ restL R = L ∧ codeL R.1 = 0 ∧ doneB st = !(peerL st).isEmpty := by
  cases st with
  | err c => exact absurd rfl (h.ok c)
  | done q =>
    have hr : ((.done q, L ++ []) : St × List UInt8) = R := h.run
    rw [List.append_nil] at hr
    rw [← hr]
    refine ⟨rfl, rfl, rfl, ?_⟩
    have hq : q ≠ [] := h.fits
    cases q with
    | nil => exact absurd rfl hq
    | cons a b => rfl
  | wait p m =>
    have hL := h.left rfl
    subst hL
    have hr : ((.wait p m, []) : St × List UInt8) = R := h.run
    rw [← hr]
    exact ⟨rfl, rfl, rfl, rfl⟩
theorem HSt.fits {ad : Nat → Addr} {w : World} {h : Nat} : ∀ {st : St}, HSt ad w h st → (∀ c, st ≠ .err c) → fit st
  | .wait _ _, hh, _ => hh.2.2
  | .done _, hh, _ => hh.2
  | .err c, _, hn => absurd rfl (hn c)
theorem and63 (z : Int) : ∃ k : Nat, k ≤ 63 ∧ bits .and .i64 z 63 = (k : Int) := by
  refine ⟨(BitVec.ofInt 64 z &&& BitVec.ofInt 64 63).toNat, ?_, ?_⟩
  · rw [BitVec.toNat_and]
    exact Nat.and_le_right
  · have hle : (BitVec.ofInt 64 z &&& BitVec.ofInt 64 63).toNat ≤ 63 := by
      rw [BitVec.toNat_and]
      exact Nat.and_le_right
    show IntKind.i64.wrap ((BitVec.ofInt 64 z &&& BitVec.ofInt 64 63).toNat : Int) = _
    rw [IntKind.wrap_i64]
    omega
end Go.Proofs.YtcbkbjpdfanjpaaGreatDoor

namespace Go.Proofs.YtcbkbjpdfanjpaaGreatDoor
open Go.RowKit
set_option maxRecDepth 100000
namespace Mg
open Spl (sv)
open Wi (IN)
set_option maxHeartbeats 4000000 in
theorem wnames_ok (ib : Nat) (x : List S) (l : S) (w : World) (h : IN w ib (Ms.nm x ++ l)) (hw : ∀ y ∈ x, Ms.name y = true) (hx : x.length ≤ 6) (hl : l.length < 800000) :
    Calls Tryz.prog 54 #[.pointer (some ⟨ib, 0, none⟩)] w fun e w' => (∃ a k c, e = .returned (.slice a k c) ∧ Rs (fun g => g < w.heap.size) w' a k c (sv x)) ∧ IN w' ib l ∧ Keeps (fun k => k = ib) w w' := by
  have hjl := Ms.join_len 64 x (fun y hy => (name_parts (hw y hy)).2.1)
  have hj : (Tm.join x).length ≤ 390 := Nat.le_trans hjl (Nat.mul_le_mul_right _ hx)
  have P := Lib.hid (Wi.text_ok ib (Tm.join x) l 4096 w h (by omega) (by decide) hl)
  have hem := by8_empty (Tm.join x)
  have SP : Hid (x ≠ [] → ∀ w2, Calls Tryz.prog 82 #[.string (by8 (Tm.join x)), .string ⟨#[44]⟩] w2 fun e w' => e = .returned (.slice (some ⟨w2.heap.size, 0, none⟩) x.length x.length) ∧ Blk w' w2.heap.size 9 (sv x) ∧ Below w2.heap.size w2 w') := Lib.hid fun h0 w2 => Spl.split_ok x h0 (fun y hy => Ms.name_free (hw y hy)) (by omega) w2
  have NM : Hid (∀ i y, x[i]? = some y → ∀ w2, Calls Tryz.prog 83 #[.string (by8 y)] w2 fun e w' => e = .returned (.bool true) ∧ w2 = w') := Lib.hid fun i y hy w2 => wname_ok y (hw y (List.mem_of_getElem? hy)) w2
  have hjn := Ms.join_nil x hw
  clear h hjl
  by_cases h0 : x = []
  · subst h0
    have he : (by8 (Tm.join [])).toList.isEmpty = true := by rw [hem]; rfl
    clear hem hjn
    go_enter Tryz.func54, Tryz.ntmps54
    go_wp2_with (go_at_call 53; refine P.out.mono ?_; rintro e w2 ⟨rfl, h2, hk2⟩)
    go_ret
    exact ⟨⟨none, 0, 0, rfl, Rs.nil _ _ _ _⟩, h2, hk2⟩
  · have he : (by8 (Tm.join x)).toList.isEmpty = false := by
      rw [hem]
      exact decide_eq_false (fun e => h0 (hjn.1 (List.eq_nil_of_length_eq_zero e)))
    have SPL := Lib.hid (SP.out h0)
    generalize hT : Tm.join x = T at *
    obtain ⟨n, hn⟩ : ∃ n, n = x.length := ⟨_, rfl⟩
    rw [← hn] at SPL hx
    have HN := Lib.hid hn
    clear hem hjn SP h0 hn hT hw hj
    go_enter Tryz.func54, Tryz.ntmps54
    go_upto_region 4 with (go_at_call 53; refine P.out.mono ?_; rintro e w2 ⟨rfl, h2, hk2⟩)
    go_upto_region 5 with (go_at_call 82; refine (SPL.out w2).mono ?_; rintro e w3 ⟨rfl, h3, hb3⟩)
    have H3 := Lib.hid (And.intro h3 (And.intro (h2.below hb3 h2.lt) (And.intro (hk2.trans (Keeps.of_below (F := fun k => k = ib) hb3) (fun _ _ e => e)) hk2.size)))
    clear h2 hk2 h3 hb3 SPL P
    generalize w2.heap.size = g at *
    go_upto_region 6 with fail
    go_loop [15] (fun v => ∃ i : Nat, v = .int .i64 i ∧ i ≤ n) (fun v => n - (intOf v).toNat)
    case atStart => exact ⟨0, rfl, Nat.zero_le _⟩
    case round =>
      obtain ⟨i, rfl, hi⟩ := hrel
      by_cases hgo : i < n
      · obtain ⟨y, hy⟩ : ∃ y, x[i]? = some y := ⟨_, List.getElem?_eq_getElem (by rw [← HN.out]; exact hgo)⟩
        have hc := H3.out.1.cell i (.string (by8 y)) (by unfold sv; rw [List.getElem?_map, hy]; rfl)
        have NY := Lib.hid (NM.out i y hy w3)
        clear hy
        go_wp2_with (go_at_call 83; refine NY.out.mono ?_; rintro e w4 ⟨rfl, rfl⟩)
        go_round
        case rel => exact ⟨i + 1, by go_num, by omega⟩
        case measure => simp [intOf]; omega
      · obtain rfl : i = n := by omega
        go_wp2_with fail
        go_ret
        refine ⟨⟨some ⟨g, 0, none⟩, i, i, rfl, by rw [Spl.sv_len, HN.out], Nat.le_refl _, .inr ⟨g, 0, rfl, H3.out.1.lt, ?_, fun j y hj => ?_⟩⟩, H3.out.2.1, H3.out.2.2.1⟩
        · have := H3.out.2.2.2
          omega
        · rw [Nat.zero_add]
          exact H3.out.1.cell j y hj
def zM : List Value := [.int .i64 0, .slice none 0 0, .slice none 0 0, .slice none 0 0, .slice none 0 0]
/-- the message that is being built: its slices V, what they hold, whose each block is -/
structure PB (B0 rb mb ib : Nat) (k : Int) (V : Nat → Value) (X : Nat → List Value) (T : Nat → Nat) (n : List (List S)) (w : World) : Prop where
  blk : Blk w mb tM [.int .i64 k, V 1, V 2, V 3, V 4]
  sg : ∀ p, 1 ≤ p → p ≤ 4 → Sg w 1 (V p) (X p).length (X p) ∧ ∀ g, vblk (V p) = some g → T g = p
  t0 : T mb = 0 ∧ T ib = 0 ∧ mb ≠ ib ∧ ib < w.heap.size
  r0 : Blk w rb tM zM ∧ T rb = 0 ∧ rb ≠ mb ∧ rb ≠ ib
  lo : B0 ≤ mb ∧ B0 ≤ ib ∧ ∀ p g, 1 ≤ p → p ≤ 4 → vblk (V p) = some g → B0 ≤ g
  inl : (X 3).length = n.length
  inn : ∀ (i : Nat) (x : Value) (l : List S), (X 3)[i]? = some x → n[i]? = some l → ∃ a k' c, x = Value.slice a k' c ∧ Rs (fun g => T g ≠ 5) w a k' c (sv l)
theorem PB.keeps {B0 rb mb ib : Nat} {k : Int} {V : Nat → Value} {X : Nat → List Value} {T : Nat → Nat} {n : List (List S)} {w w' : World} {G : Nat → Prop} (h : PB B0 rb mb ib k V X T n w) (hk : Keeps G w w') (hm : ¬ G mb) (hr : ¬ G rb) (hG : ∀ g, g < w.heap.size → G g → T g = 0) : PB B0 rb mb ib k V X T n w' := by
  refine ⟨hk.blk h.blk hm, fun p h1 h4 => ⟨(h.sg p h1 h4).1.keeps hk (fun g hg e => ?_), (h.sg p h1 h4).2⟩, ⟨h.t0.1, h.t0.2.1, h.t0.2.2.1, Nat.lt_of_lt_of_le h.t0.2.2.2 hk.size⟩, ⟨hk.blk h.r0.1 hr, h.r0.2⟩, h.lo, h.inl, fun i x l hx hl => ?_⟩
  · have h5 := (h.sg p h1 h4).2 g hg
    have h6 := hG g ((h.sg p h1 h4).1.lt hg) e
    omega
  · obtain ⟨a, k', c, e, hr⟩ := h.inn i x l hx hl
    exact ⟨a, k', c, e, hr.keeps hk (fun g hg e => by rw [hG g hg e]; decide)⟩
theorem PB.below {B0 rb mb ib : Nat} {k : Int} {V : Nat → Value} {X : Nat → List Value} {T : Nat → Nat} {n : List (List S)} {w w' : World} (h : PB B0 rb mb ib k V X T n w) (hb : Below w.heap.size w w') : PB B0 rb mb ib k V X T n w' :=
  h.keeps (Keeps.of_below (F := fun _ => False) hb) (fun e => e) (fun e => e) (fun _ _ e => e.elim)
theorem PB.call {B0 rb mb ib : Nat} {k : Int} {V : Nat → Value} {X : Nat → List Value} {T : Nat → Nat} {n : List (List S)} {w w' : World} (h : PB B0 rb mb ib k V X T n w) (hk : Keeps (fun q => q = ib) w w') : PB B0 rb mb ib k V X T n w' :=
  h.keeps hk h.t0.2.2.1 h.r0.2.2.2 (fun g _ e => by rw [e]; exact h.t0.2.1)
/-- other tags for blocks that are not there yet -/
theorem PB.tag {B0 rb mb ib : Nat} {k : Int} {V : Nat → Value} {X : Nat → List Value} {T : Nat → Nat} {n : List (List S)} {w : World} (h : PB B0 rb mb ib k V X T n w) (b : Nat) (hb : w.heap.size ≤ b) (q : Nat) : PB B0 rb mb ib k V X (fun g => if g < b then T g else q) n w := by
  have hl := h.blk.lt
  refine ⟨h.blk, fun p h1 h4 => ⟨(h.sg p h1 h4).1, fun g hg => ?_⟩, ⟨?_, ?_, h.t0.2.2⟩, ⟨h.r0.1, ?_, h.r0.2.2⟩, h.lo, h.inl, fun i x l hx hl => ?_⟩
  · have := (h.sg p h1 h4).1.lt hg
    show (if g < b then T g else q) = p
    rw [if_pos (by omega)]
    exact (h.sg p h1 h4).2 g hg
  · show (if mb < b then T mb else q) = 0
    rw [if_pos (by omega)]; exact h.t0.1
  · show (if ib < b then T ib else q) = 0
    have := h.t0.2.2.2
    rw [if_pos (by omega)]; exact h.t0.2.1
  · show (if rb < b then T rb else q) = 0
    have := h.r0.1.lt
    rw [if_pos (by omega)]; exact h.r0.2.1
  · obtain ⟨a, k', c, e, hr⟩ := h.inn i x l hx hl
    refine ⟨a, k', c, e, hr.mono (fun g hg e => ?_)⟩
    rw [if_pos (by omega)] at e
    exact e
def up {α : Type} (f : Nat → α) (p : Nat) (v : α) : Nat → α := fun q => if q = p then v else f q
/-- one more element -/
theorem PB.push {B0 rb mb ib : Nat} {k : Int} {V : Nat → Value} {X : Nat → List Value} {T : Nat → Nat} {n n' : List (List S)} {w w5 w6 : World} (h : PB B0 rb mb ib k V X T n w) (p : Nat) (h1 : 1 ≤ p) (h4 : p ≤ 4) (x : Value) (v' : Value)
    (hs : Sg w5 1 v' ((X p).length + 1) (X p ++ [x])) (hv : ∀ g, vblk v' = some g → vblk (V p) = some g ∨ w.heap.size ≤ g) (hk : Keeps (fun q => vblk (V p) = some q) w w5) (h6 : Below w5.heap.size w5 w6)
    (hl : (up X p (X p ++ [x]) 3).length = n'.length) (hn : ∀ (i : Nat) (y : Value) (l : List S), (up X p (X p ++ [x]) 3)[i]? = some y → n'[i]? = some l → ∃ a k' c, y = Value.slice a k' c ∧ Rs (fun g => T g ≠ 5) w a k' c (sv l)) :
    PB B0 rb mb ib k (up V p v') (up X p (X p ++ [x])) (fun g => if g < w.heap.size then T g else p) n' (w6.setCell ⟨mb, p, none⟩ v') := by
  have hml := h.blk.lt
  have hmb : vblk (V p) ≠ some mb := fun e => by have := (h.sg p h1 h4).2 mb e; have := h.t0.1; omega
  have hk2 := hk.trans (Keeps.of_below (F := fun q => vblk (V p) = some q) h6) (fun _ _ e => e)
  have hks : Keeps (fun q => vblk (V p) = some q ∨ q = mb) w (w6.setCell ⟨mb, p, none⟩ v') := (hk2.mono (fun _ _ e => .inl e)).set mb p v' (fun _ => .inr rfl)
  have hb6 : Blk w6 mb tM [.int .i64 k, V 1, V 2, V 3, V 4] := hk2.blk h.blk hmb
  have hb7 := hb6.set p v'
  have vne : vblk v' ≠ some mb := fun e => by
    rcases hv mb e with h' | h'
    · exact hmb h'
    · omega
  refine ⟨?_, fun q hq1 hq4 => ?_, ⟨?_, ?_, h.t0.2.2.1, Nat.lt_of_lt_of_le h.t0.2.2.2 hks.size⟩, ⟨hks.blk h.r0.1 (fun e => ?_), ?_, h.r0.2.2⟩, ⟨h.lo.1, h.lo.2.1, fun q g hq1 hq4 hg => ?_⟩, hl, fun i y l hy hl' => ?_⟩
  · have e : ([.int .i64 k, V 1, V 2, V 3, V 4] : List Value).set p v' = [.int .i64 k, up V p v' 1, up V p v' 2, up V p v' 3, up V p v' 4] := by
      match p, h1, h4 with
      | 1, _, _ => rfl
      | 2, _, _ => rfl
      | 3, _, _ => rfl
      | 4, _, _ => rfl
    rw [← e]; exact hb7
  · by_cases hqp : q = p
    · subst hqp
      unfold up
      rw [if_pos rfl, if_pos rfl, List.length_append]
      refine ⟨(hs.below h6).keeps ((Keeps.refl (fun z => z = mb) w6).set mb q v' (fun _ => rfl)) (fun g hg e => by subst e; exact vne hg), fun g hg => ?_⟩
      show (if g < w.heap.size then T g else q) = q
      rcases hv g hg with h' | h'
      · rw [if_pos ((h.sg q h1 h4).1.lt h')]; exact (h.sg q h1 h4).2 g h'
      · rw [if_neg (by omega)]
    · unfold up
      rw [if_neg hqp, if_neg hqp]
      have hq := h.sg q hq1 hq4
      refine ⟨hq.1.keeps hks (fun g hg e => ?_), fun g hg => ?_⟩
      · have h7 := hq.2 g hg
        rcases e with e | e
        · have := (h.sg p h1 h4).2 g e; omega
        · subst e; have := h.t0.1; omega
      · show (if g < w.heap.size then T g else p) = q
        rw [if_pos (hq.1.lt hg)]; exact hq.2 g hg
  · show (if mb < w.heap.size then T mb else p) = 0
    rw [if_pos hml]; exact h.t0.1
  · show (if ib < w.heap.size then T ib else p) = 0
    rw [if_pos h.t0.2.2.2]; exact h.t0.2.1
  · rcases e with e | e
    · have := (h.sg p h1 h4).2 rb e
      have := h.r0.2.1
      omega
    · exact h.r0.2.2.1 e
  · show (if rb < w.heap.size then T rb else p) = 0
    rw [if_pos h.r0.1.lt]; exact h.r0.2.1
  · by_cases hqp : q = p
    · subst hqp
      unfold up at hg
      rw [if_pos rfl] at hg
      rcases hv g hg with h' | h'
      · exact h.lo.2.2 q g h1 h4 h'
      · have := h.lo.1; omega
    · unfold up at hg
      rw [if_neg hqp] at hg
      exact h.lo.2.2 q g hq1 hq4 hg
  · obtain ⟨a, k', c, e, hr⟩ := hn i y l hy hl'
    refine ⟨a, k', c, e, (hr.mono (F' := fun g => (if g < w.heap.size then T g else p) ≠ 5) (fun g hg e => by rw [if_pos hg] at e; exact e)).keeps hks (fun g hg e => ?_)⟩
    show (if g < w.heap.size then T g else p) ≠ 5
    rw [if_pos hg]
    rcases e with e | e
    · rw [(h.sg p h1 h4).2 g e]; omega
    · subst e; rw [h.t0.1]; decide
/-- what else stays behind one more element -/
theorem PB.rest {B0 rb mb ib : Nat} {k : Int} {V : Nat → Value} {X : Nat → List Value} {T : Nat → Nat} {n : List (List S)} {w w5 w6 : World} (h : PB B0 rb mb ib k V X T n w) (p : Nat) (h1 : 1 ≤ p) (h4 : p ≤ 4) (v' : Value)
    (hk : Keeps (fun q => vblk (V p) = some q) w w5) (h6 : Below w5.heap.size w5 w6) : (∀ l, IN w ib l → IN (w6.setCell ⟨mb, p, none⟩ v') ib l) ∧ Below B0 w (w6.setCell ⟨mb, p, none⟩ v') := by
  have hB : B0 ≤ w.heap.size := by have := h.blk.lt; have := h.lo.1; omega
  have hk2 := hk.trans (Keeps.of_below (F := fun q => vblk (V p) = some q) h6) (fun _ _ e => e)
  have hks : Keeps (fun q => vblk (V p) = some q ∨ q = mb) w (w6.setCell ⟨mb, p, none⟩ v') := (hk2.mono (fun _ _ e => .inl e)).set mb p v' (fun _ => .inr rfl)
  refine ⟨fun l hl => hks.blk hl (fun e => ?_), hks.below hB (fun q hq e => ?_)⟩
  · rcases e with e | e
    · have := (h.sg p h1 h4).2 ib e
      have := h.t0.2.1
      omega
    · exact h.t0.2.2.1 e.symm
  · rcases e with e | e
    · have := h.lo.2.2 p q h1 h4 e; omega
    · have := h.lo.1; omega
theorem lit_one (w : World) (t : TypeId) (x : Value) : Sg (w.alloc (.cells #[x] t)) 1 (.slice (some ⟨w.heap.size, 0, none⟩) 1 1) 1 [x] := by
  have hb : Blk (w.alloc (.cells #[x] t)) w.heap.size t [x] := Blk.new w t [x]
  refine ⟨rfl, _, 1, rfl, Nat.le_refl _, by unfold maxLen; omega, .inr ⟨w.heap.size, 0, rfl, hb.lt, fun j hj => ?_, fun j hj => ?_⟩⟩
  · obtain rfl : j = 0 := by omega
    exact ⟨by rw [Nat.add_zero, hb.cell 0 _ rfl]; rfl, hb.free 0⟩
  · obtain rfl : j = 0 := by omega
    exact hb.cell 0 _ rfl
/-- the reading of a message, ahead of the letters r -/
structure PL (W0 : World) (rb mb ib : Nat) (k : Int) (u : List Nat) (s : List S) (n : List (List S)) (b : List Bool) (r : S) (V : Nat → Value) (X : Nat → List Value) (T : Nat → Nat) (np : List (List S)) (u' : List Nat) (s' : List S) (n' : List (List S)) (b' : List Bool) (wx : World) : Prop where
  pb : PB W0.heap.size rb mb ib k V X T np wx
  x1 : ∃ pu, X 1 = uv pu ∧ pu ++ u' = u
  x2 : ∃ ps, X 2 = sv ps ∧ ps ++ s' = s
  x3 : np ++ n' = n
  x4 : ∃ pb, X 4 = bv pb ∧ pb ++ b' = b
  fit : Ms.fits r u' s' n' b'
  inp : IN wx ib (Ms.enc r u' s' n' b')
  bw : Below W0.heap.size W0 wx
theorem PL.below {W0 : World} {rb mb ib : Nat} {k : Int} {u : List Nat} {s : List S} {n : List (List S)} {b : List Bool} {r : S} {V : Nat → Value} {X : Nat → List Value} {T : Nat → Nat} {np : List (List S)} {u' : List Nat} {s' : List S} {n' : List (List S)} {b' : List Bool} {wx wy : World}
    (h : PL W0 rb mb ib k u s n b r V X T np u' s' n' b' wx) (hb : Below wx.heap.size wx wy) : PL W0 rb mb ib k u s n b r V X T np u' s' n' b' wy :=
  ⟨h.pb.below hb, h.x1, h.x2, h.x3, h.x4, h.fit, h.inp.below hb h.inp.lt, h.bw.trans (hb.mono h.bw.size)⟩
end Mg
end Go.Proofs.YtcbkbjpdfanjpaaGreatDoor
