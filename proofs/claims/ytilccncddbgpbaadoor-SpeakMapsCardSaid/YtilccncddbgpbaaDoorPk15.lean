/-
Numbers by digits of base 65536, the lowest first: plain facts, no program in sight.
The document's numbers in digits of 16 bits: the contracts of its sums.
The document's numbers in digits of 16 bits: differences, small numbers, powers of two, comparing.
The document's numbers in digits of 16 bits: powers of two, products, halves.
-/
import Derived.KernelRfl
import Derived.Test.YtilccncddbgpbaaDoorRows
import Derived.LoopTactic
import Derived.Outline
import Derived.Test.YtilccncddbgpbaaDoorPk01
import Derived.Test.YtilccncddbgpbaaDoorPk14
namespace Go.Proofs.YtilccncddbgpbaaDoor

/-- the number that digits write -/
def bv : List Nat → Nat
  | [] => 0
  | d :: r => d + 65536 * bv r
/-- all are digits -/
def Sm (l : List Nat) : Prop := ∀ d ∈ l, d < 65536
/-- digits without a 0 above -/
def Can (l : List Nat) : Prop := Sm l ∧ ∀ d, l.getLast? = some d → 0 < d

@[simp] theorem bv_nil : bv [] = 0 := rfl
@[simp] theorem bv_cons (d : Nat) (r : List Nat) : bv (d :: r) = d + 65536 * bv r := rfl
theorem bv_append (a b : List Nat) : bv (a ++ b) = bv a + 65536 ^ a.length * bv b := by
  induction a with
  | nil => simp
  | cons d r ih =>
    simp only [List.cons_append, bv_cons, ih, List.length_cons, Nat.pow_succ]
    rw [Nat.mul_add, ← Nat.mul_assoc, Nat.mul_comm 65536 (65536 ^ r.length), Nat.add_assoc]
theorem bv_snoc (a : List Nat) (d : Nat) : bv (a ++ [d]) = bv a + 65536 ^ a.length * d := by rw [bv_append]; simp
theorem Sm.nil : Sm [] := fun _ h => by cases h
theorem Sm.append {a b : List Nat} (ha : Sm a) (hb : Sm b) : Sm (a ++ b) := fun d h => by
  rcases List.mem_append.1 h with h | h
  · exact ha d h
  · exact hb d h
theorem Sm.snoc {a : List Nat} {d : Nat} (ha : Sm a) (hd : d < 65536) : Sm (a ++ [d]) := ha.append fun x h => by
  rcases List.mem_singleton.1 h with rfl; exact hd
theorem Sm.take {a : List Nat} (ha : Sm a) (n : Nat) : Sm (a.take n) := fun d h => ha d (List.mem_of_mem_take h)
theorem Sm.drop {a : List Nat} (ha : Sm a) (n : Nat) : Sm (a.drop n) := fun d h => ha d (List.mem_of_mem_drop h)
theorem Sm.getD {a : List Nat} (ha : Sm a) (n : Nat) : a.getD n 0 < 65536 := by
  rcases Nat.lt_or_ge n a.length with h | h
  · rw [List.getD_eq_getElem?_getD, List.getElem?_eq_getElem h]
    exact ha _ (List.getElem_mem h)
  · rw [List.getD_eq_getElem?_getD, List.getElem?_eq_none h]; decide
theorem Sm.set {a : List Nat} (ha : Sm a) (n d : Nat) (hd : d < 65536) : Sm (a.set n d) := fun x h => by
  rcases List.mem_or_eq_of_mem_set h with h | rfl
  · exact ha x h
  · exact hd
theorem bv_lt {l : List Nat} (h : Sm l) : bv l < 65536 ^ l.length := by
  induction l with
  | nil => simp
  | cons d r ih =>
    have hd := h d (by simp)
    have := ih (fun x hx => h x (by simp [hx]))
    simp only [bv_cons, List.length_cons, Nat.pow_succ]
    omega
theorem take_succ_getD (l : List Nat) (k : Nat) (h : k < l.length) : l.take (k + 1) = l.take k ++ [l.getD k 0] := by
  rw [List.take_succ_eq_append_getElem h, List.getD_eq_getElem?_getD, List.getElem?_eq_getElem h]; rfl
theorem bv_take_succ (l : List Nat) (k : Nat) (h : k < l.length) : bv (l.take (k + 1)) = bv (l.take k) + 65536 ^ k * l.getD k 0 := by
  rw [take_succ_getD l k h, bv_snoc, List.length_take, Nat.min_eq_left (Nat.le_of_lt h)]
theorem bv_take_ge (l : List Nat) (k : Nat) (h : l.length ≤ k) : bv (l.take k) = bv l := by rw [List.take_of_length_le h]
theorem bv_take_drop (l : List Nat) (k : Nat) (h : k ≤ l.length) : bv l = bv (l.take k) + 65536 ^ k * bv (l.drop k) := by
  conv => lhs; rw [← List.take_append_drop k l]
  rw [bv_append, List.length_take, Nat.min_eq_left h]
/-- the next digit of a number that may have ended -/
theorem bv_take_next (l : List Nat) (k : Nat) : bv (l.take (k + 1)) = bv (l.take k) + 65536 ^ k * l.getD k 0 := by
  rcases Nat.lt_or_ge k l.length with h | h
  · exact bv_take_succ l k h
  · rw [bv_take_ge l _ h, bv_take_ge l _ (by omega), List.getD_eq_getElem?_getD, List.getElem?_eq_none h]; simp
theorem bv_set (l : List Nat) (k d : Nat) (h : k < l.length) : bv (l.set k d) + 65536 ^ k * l.getD k 0 = bv l + 65536 ^ k * d := by
  induction l generalizing k with
  | nil => simp at h
  | cons x r ih =>
    cases k with
    | zero => simp; omega
    | succ k =>
      have := ih k (by simpa using h)
      simp only [List.set_cons_succ, bv_cons, List.getD_cons_succ, Nat.pow_succ]
      rw [Nat.mul_comm (65536 ^ k) 65536, Nat.mul_assoc, Nat.mul_assoc]
      omega
theorem bv_zero {l : List Nat} (h : ∀ d ∈ l, d = 0) : bv l = 0 := by
  induction l with
  | nil => rfl
  | cons d r ih =>
    have := h d (by simp)
    have := ih (fun x hx => h x (by simp [hx]))
    simp [*]
theorem bv_replicate (n : Nat) : bv (List.replicate n 0) = 0 := bv_zero fun _ h => (List.mem_replicate.1 h).2

theorem Can.nil : Can [] := ⟨Sm.nil, fun d h => by simp at h⟩
theorem Can.tail {d : Nat} {r : List Nat} (h : Can (d :: r)) : Can r := by
  refine ⟨fun x hx => h.1 x (by simp [hx]), fun x hx => h.2 x ?_⟩
  cases r with
  | nil => simp at hx
  | cons y r => rw [List.getLast?_cons_cons]; exact hx
theorem Can.zero {l : List Nat} (h : Can l) (hz : bv l = 0) : l = [] := by
  induction l with
  | nil => rfl
  | cons d r ih =>
    simp only [bv_cons] at hz
    have hr := ih h.tail (by omega)
    subst hr
    have := h.2 d (by simp)
    omega
/-- the digits of a number are its own -/
theorem Can.unique {a b : List Nat} (ha : Can a) (hb : Can b) (h : bv a = bv b) : a = b := by
  induction a generalizing b with
  | nil => exact (hb.zero (by simpa using h.symm)).symm
  | cons d r ih =>
    cases b with
    | nil => exact ha.zero (by simpa using h)
    | cons e q =>
      have h1 := ha.1 d (by simp)
      have h2 := hb.1 e (by simp)
      simp only [bv_cons] at h
      obtain rfl : d = e := by omega
      rw [ih ha.tail hb.tail (by omega)]
theorem Can.lower {l : List Nat} (h : Can l) (hne : l ≠ []) : 65536 ^ (l.length - 1) ≤ bv l := by
  obtain ⟨a, d, rfl⟩ : ∃ a d, l = a ++ [d] := ⟨l.dropLast, l.getLast hne, (List.dropLast_concat_getLast hne).symm⟩
  have hd := h.2 d (by simp)
  rw [bv_snoc, List.length_append, List.length_singleton, Nat.add_sub_cancel]
  calc 65536 ^ a.length = 65536 ^ a.length * 1 := (Nat.mul_one _).symm
    _ ≤ 65536 ^ a.length * d := Nat.mul_le_mul_left _ hd
    _ ≤ _ := Nat.le_add_left _ _
/-- fewer digits: less -/
theorem Can.lt_of_length {a b : List Nat} (ha : Sm a) (hb : Can b) (h : a.length < b.length) : bv a < bv b := by
  have h1 := bv_lt ha
  have h2 := hb.lower (by rintro rfl; simp at h)
  have h3 : 65536 ^ a.length ≤ 65536 ^ (b.length - 1) := Nat.pow_le_pow_right (by decide) (by omega)
  omega
/-- what 'trim' leaves: up to the last digit that isn't 0 -/
theorem trim_can {l : List Nat} (hs : Sm l) (n : Nat) (hn : n ≤ l.length) (hz : ∀ k, n ≤ k → k < l.length → l.getD k 0 = 0) (hl : 0 < n → 0 < l.getD (n - 1) 0) : Can (l.take n) ∧ bv (l.take n) = bv l := by
  refine ⟨⟨hs.take n, fun d hd => ?_⟩, ?_⟩
  · rcases Nat.eq_zero_or_pos n with rfl | hp
    · simp at hd
    · have e : l.take n = l.take (n - 1) ++ [l.getD (n - 1) 0] := by
        have := take_succ_getD l (n - 1) (by omega)
        rwa [Nat.sub_add_cancel hp] at this
      rw [e, List.getLast?_append] at hd
      simp at hd
      have := hl hp
      simp at this
      omega
  · rw [bv_take_drop l n hn, bv_zero (l := l.drop n), Nat.mul_zero, Nat.add_zero]
    intro d hd
    obtain ⟨i, hi, rfl⟩ := List.mem_iff_getElem.1 hd
    simp only [List.length_drop] at hi
    have := hz (n + i) (by omega) (by omega)
    rw [List.getD_eq_getElem?_getD, List.getElem?_eq_getElem (by omega)] at this
    simpa using this
end Go.Proofs.YtilccncddbgpbaaDoor

namespace Go.Proofs.YtilccncddbgpbaaDoor
open Go.RowKit

/-- a slice that reads as digits -/
def DigAt (w : World) (v : Value) (l : List Nat) : Prop :=
  Sm l ∧ ∃ a cap, v = .slice a l.length cap ∧ l.length ≤ cap ∧ cap ≤ maxLen ∧ ∀ i, i < l.length → ∃ b off, a = some ⟨b, off, none⟩ ∧ w.cell? ⟨b, off + i, none⟩ = some (.int .i64 (l.getD i 0 : Nat))
/-- .. as a number -/
def Num (w : World) (v : Value) (n : Nat) : Prop := ∃ l, DigAt w v l ∧ Can l ∧ bv l = n
theorem DigAt.below {w w' : World} {v : Value} {l : List Nat} (h : DigAt w v l) (hb : Below w.heap.size w w') : DigAt w' v l := by
  obtain ⟨hs, a, cap, rfl, h1, h2, hc⟩ := h
  refine ⟨hs, a, cap, rfl, h1, h2, fun i hi => ?_⟩
  obtain ⟨b, off, ha, hci⟩ := hc i hi
  exact ⟨b, off, ha, by rw [hb.cell (cell_lt hci).1]; exact hci⟩
theorem Num.below {w w' : World} {v : Value} {n : Nat} (h : Num w v n) (hb : Below w.heap.size w w') : Num w' v n := by
  obtain ⟨l, hd, hc, hn⟩ := h
  exact ⟨l, hd.below hb, hc, hn⟩
theorem DigAt.small {w : World} {v : Value} {l : List Nat} (h : DigAt w v l) : Sm l := h.1

theorem digInfo : (Tryd.prog.info? 3).map (fun i => (i.zero, i.size, i.bytes)) = some (some (.int .i64 0), 1, 8) := by kernel_rfl
/-- the values of digits -/
def dvals (l : List Nat) : List Value := l.map fun d => Value.int .i64 (d : Nat)
theorem dvals_snoc (l : List Nat) (d : Nat) : dvals (l ++ [d]) = dvals l ++ [.int .i64 d] := by simp [dvals]
theorem dvals_length (l : List Nat) : (dvals l).length = l.length := by simp [dvals]
/-- a row of the call's own reads as its digits -/
theorem dig_of_own {w : World} {base : Nat} {e : TypeId} {v : Value} {l : List Nat} (hs : Sm l) (h : w.ownsRow base e 1 v l.length (dvals l)) : DigAt w v l := by
  refine ⟨hs, ?_⟩
  obtain ⟨hlen, h⟩ := h
  rcases h with ⟨rfl, h0⟩ | ⟨g, cap, cur, rfl, hb, hg, hn, hm, hsz, htk⟩
  · exact ⟨none, 0, by rw [h0], by omega, Nat.zero_le _, fun i hi => by omega⟩
  · refine ⟨some ⟨g, 0, none⟩, cap, rfl, hn, hm, fun i hi => ⟨g, 0, rfl, ?_⟩⟩
    have h1 : (cur.toList.take (l.length * 1))[i]? = (dvals l)[i]? := by rw [htk]
    rw [Nat.mul_one, List.getElem?_take_of_lt hi] at h1
    simp only [World.cell?, hg, Option.isSome_none, Bool.false_eq_true, if_false, Nat.zero_add]
    rw [← Array.getElem?_toList, h1]
    simp [dvals, List.getElem?_eq_getElem hi]

/-- an append of one digit to a row of the call's own: what the walk wants -/
theorem own_one {w : World} {base : Nat} {e : TypeId} {v : Value} {l : List Nat} (h : w.ownsRow base e 1 v l.length (dvals l)) (o : Obj) : (w.alloc o).ownsRow base e 1 v l.length (dvals l) := h.alloc o

theorem one_cells (w : World) (e : TypeId) (y : Value) : ∀ (j : Nat) (u : Value), ([y] : List Value)[j]? = some u → (w.alloc (.cells #[y] e)).cell? ((⟨w.heap.size, 0, none⟩ : Addr).add j) = some u := by
  intro j u hj
  match j, hj with
  | 0, hj =>
    simp at hj
    subst hj
    simp [Addr.add]
theorem one_cell1 (k : IntKind) (n : Int) : ∀ u ∈ ([Value.int k n] : List Value), u.oneCell' = true := by
  intro u hu
  simp at hu
  subst hu
  rfl

theorem add_round {la lb lo : List Nat} {i c : Nat} (hl : lo.length = i) (h : bv lo + 65536 ^ i * c = bv (la.take i) + bv (lb.take i)) :
    bv (lo ++ [(c + la.getD i 0 + lb.getD i 0) % 65536]) + 65536 ^ (i + 1) * ((c + la.getD i 0 + lb.getD i 0) / 65536) = bv (la.take (i + 1)) + bv (lb.take (i + 1)) := by
  rw [bv_snoc, bv_take_next, bv_take_next, hl, Nat.pow_succ, Nat.mul_assoc]
  have e := Nat.mod_add_div (c + la.getD i 0 + lb.getD i 0) 65536
  generalize (c + la.getD i 0 + lb.getD i 0) % 65536 = r at *
  generalize (c + la.getD i 0 + lb.getD i 0) / 65536 = q at *
  have e2 : 65536 ^ i * r + 65536 ^ i * (65536 * q) = 65536 ^ i * c + 65536 ^ i * la.getD i 0 + 65536 ^ i * lb.getD i 0 := by
    rw [← Nat.mul_add, e, Nat.mul_add, Nat.mul_add]
  omega

theorem add_len {la lb lo : List Nat} {i c M : Nat} (hsa : Sm la) (hsb : Sm lb) (h : bv lo + 65536 ^ i * c = bv (la.take i) + bv (lb.take i)) (hla : la.length ≤ M) (hlb : lb.length ≤ M) (hc : 0 < c) : i ≤ M := by
  rcases Nat.lt_or_ge M i with h' | h'
  · exfalso
    have h1 := bv_lt hsa
    have h2 := bv_lt hsb
    rw [bv_take_ge la i (by omega), bv_take_ge lb i (by omega)] at h
    have h4 : 65536 ^ la.length ≤ 65536 ^ M := Nat.pow_le_pow_right (by decide) hla
    have h5 : 65536 ^ lb.length ≤ 65536 ^ M := Nat.pow_le_pow_right (by decide) hlb
    have h6 : 65536 ^ (M + 1) ≤ 65536 ^ i := Nat.pow_le_pow_right (by decide) h'
    have h8 : 65536 ^ i ≤ 65536 ^ i * c := Nat.le_mul_of_pos_right _ hc
    rw [Nat.pow_succ] at h6
    omega
  · exact h'

end Go.Proofs.YtilccncddbgpbaaDoor

namespace Go.Proofs.YtilccncddbgpbaaDoor
open Go.RowKit

theorem sub_round {la lb lo : List Nat} {i c c' d : Nat} (hl : lo.length = i) (h : bv (la.take i) + 65536 ^ i * c = bv lo + bv (lb.take i)) (hd : la.getD i 0 + 65536 * c' = d + lb.getD i 0 + c) :
    bv (la.take (i + 1)) + 65536 ^ (i + 1) * c' = bv (lo ++ [d]) + bv (lb.take (i + 1)) := by
  rw [bv_snoc, bv_take_next, bv_take_next, hl, Nat.pow_succ, Nat.mul_assoc]
  have e2 : 65536 ^ i * la.getD i 0 + 65536 ^ i * (65536 * c') = 65536 ^ i * d + 65536 ^ i * lb.getD i 0 + 65536 ^ i * c := by
    rw [← Nat.mul_add, hd, Nat.mul_add, Nat.mul_add]
  omega

theorem sub_end {la lb lo : List Nat} {c : Nat} (hl : lo.length = la.length) (hso : Sm lo) (h : bv (la.take la.length) + 65536 ^ la.length * c = bv lo + bv (lb.take la.length)) (hle : bv lb ≤ bv la) (hsa : Sm la) : bv lo = bv la - bv lb := by
  rw [List.take_length] at h
  have h1 := bv_lt hso
  have h2 := bv_lt hsa
  rw [hl] at h1
  have h3 : bv (lb.take la.length) = bv lb := by
    rcases Nat.lt_or_ge la.length lb.length with hlt | hge
    · have h4 := bv_take_drop lb la.length (Nat.le_of_lt hlt)
      rcases Nat.eq_zero_or_pos (bv (lb.drop la.length)) with h0 | h0
      · rw [h0] at h4; omega
      · exfalso
        have : 65536 ^ la.length ≤ 65536 ^ la.length * bv (lb.drop la.length) := Nat.le_mul_of_pos_right _ h0
        omega
    · exact bv_take_ge lb _ hge
  rw [h3] at h
  rcases Nat.eq_zero_or_pos c with rfl | hc
  · omega
  · exfalso
    have : 65536 ^ la.length ≤ 65536 ^ la.length * c := Nat.le_mul_of_pos_right _ hc
    omega

/-! ### Small -/
theorem small_round {lo : List Nat} {i x n : Nat} (hl : lo.length = i) (h : bv lo + 65536 ^ i * x = n) : bv (lo ++ [x % 65536]) + 65536 ^ (i + 1) * (x / 65536) = n := by
  rw [bv_snoc, hl, Nat.pow_succ, Nat.mul_assoc]
  have e2 : 65536 ^ i * (x % 65536) + 65536 ^ i * (65536 * (x / 65536)) = 65536 ^ i * x := by rw [← Nat.mul_add, Nat.mod_add_div]
  omega
/-! ### Comparing -/
theorem ex_drew {w x : World} (h : ∃ k, w.drewN k = x) (m : Nat) : ∃ k, w.drewN k = x.drewN m := by
  obtain ⟨k, rfl⟩ := h
  exact ⟨k + m, (World.drewN_drewN ..).symm⟩
/-- what Cmp says -/
def cmpOf (a b : Nat) : Int := if a < b then -1 else if b < a then 1 else 0
theorem cmp_split {la lb : List Nat} {i : Nat} (hsa : Sm la) (hl : la.length = lb.length) (hi : i < la.length) (h : la.drop (i + 1) = lb.drop (i + 1)) (hlt : la.getD i 0 < lb.getD i 0) : bv la < bv lb := by
  have e1 := bv_take_drop la (i + 1) (by omega)
  have e2 := bv_take_drop lb (i + 1) (by omega)
  rw [h] at e1
  rw [bv_take_next] at e1 e2
  have h1 := bv_lt (hsa.take i)
  rw [List.length_take, Nat.min_eq_left (by omega)] at h1
  have h3 : 65536 ^ i * la.getD i 0 + 65536 ^ i ≤ 65536 ^ i * lb.getD i 0 := by
    rw [← Nat.mul_succ]; exact Nat.mul_le_mul_left _ hlt
  omega
theorem drop_getD {l : List Nat} {i : Nat} (h : i < l.length) : l.drop i = l.getD i 0 :: l.drop (i + 1) := by
  rw [List.drop_eq_getElem_cons h, List.getD_eq_getElem?_getD, List.getElem?_eq_getElem h]; rfl

end Go.Proofs.YtilccncddbgpbaaDoor

namespace Go.Proofs.YtilccncddbgpbaaDoor
open Go.RowKit

theorem made_zero (n : Nat) : (madeCells #[Value.int .i64 0] n).toList = dvals (List.replicate n 0) := by
  apply List.ext_getElem?
  intro i
  rcases Nat.lt_or_ge i n with h | h
  · simp [madeCells, dvals, h, Nat.mod_one]
  · simp [madeCells, dvals, h]
theorem dvals_set (l : List Nat) (j d : Nat) : dvals (l.set j d) = (dvals l).set j (.int .i64 d) := by simp [dvals, List.map_set]
theorem dvals_get (l : List Nat) (j : Nat) (h : j < l.length) : (dvals l)[j]? = some (.int .i64 (l.getD j 0 : Nat)) := by
  simp [dvals, List.getElem?_eq_getElem h]

theorem power_digits (n : Nat) : Can ((List.replicate (n / 16 + 1) 0).set (n / 16) (2 ^ (n % 16))) ∧ bv ((List.replicate (n / 16 + 1) 0).set (n / 16) (2 ^ (n % 16))) = 2 ^ n := by
  have h2 : 2 ^ (n % 16) < 65536 := Nat.lt_of_lt_of_le (Nat.pow_lt_pow_right (by decide) (Nat.mod_lt n (by decide) : n % 16 < 16)) (by decide)
  have hp : 0 < 2 ^ (n % 16) := Nat.pow_pos (by decide)
  refine ⟨⟨Sm.set (fun d hd => by rw [(List.mem_replicate.1 hd).2]; decide) _ _ h2, fun d hd => ?_⟩, ?_⟩
  · rw [List.getLast?_eq_getElem?] at hd
    simp at hd
    omega
  · have h := bv_set (List.replicate (n / 16 + 1) 0) (n / 16) (2 ^ (n % 16)) (by simp)
    rw [bv_replicate] at h
    have e : (List.replicate (n / 16 + 1) 0).getD (n / 16) 0 = 0 := by simp [List.getD_eq_getElem?_getD]
    rw [e, Nat.mul_zero, Nat.add_zero, Nat.zero_add] at h
    rw [h, show (65536 : Nat) = 2 ^ 16 from rfl, ← Nat.pow_mul, ← Nat.pow_add, Nat.div_add_mod]

theorem own_drewN {w : World} {base : Nat} {e : TypeId} {size : Nat} {v : Value} {n : Nat} {xs : List Value} (h : w.ownsRow base e size v n xs) (k : Nat) : (w.drewN k).ownsRow base e size v n xs := h
/-! ### Mul -/
theorem mul_inner {lo : List Nat} {i j c x y T B p : Nat} (hk : i + j < lo.length) (h : bv lo + c * 65536 ^ (i + j) = T + 65536 ^ i * (x * B)) (hp : p = 65536 ^ j * y) :
    bv (lo.set (i + j) ((lo.getD (i + j) 0 + x * y + c) % 65536)) + (lo.getD (i + j) 0 + x * y + c) / 65536 * 65536 ^ (i + (j + 1)) = T + 65536 ^ i * (x * (B + p)) := by
  have hs := bv_set lo (i + j) ((lo.getD (i + j) 0 + x * y + c) % 65536) hk
  have hm := Nat.mod_add_div (lo.getD (i + j) 0 + x * y + c) 65536
  generalize lo.getD (i + j) 0 = d at *
  generalize (d + x * y + c) % 65536 = r at *
  generalize (d + x * y + c) / 65536 = q at *
  subst hp
  have e1 : 65536 ^ (i + (j + 1)) = 65536 ^ (i + j) * 65536 := by rw [← Nat.add_assoc, Nat.pow_succ]
  have e2 : 65536 ^ i * (x * (B + 65536 ^ j * y)) = 65536 ^ i * (x * B) + 65536 ^ (i + j) * (x * y) := by
    rw [Nat.mul_add, Nat.mul_add, Nat.pow_add]
    congr 1
    rw [Nat.mul_assoc, ← Nat.mul_assoc x, Nat.mul_comm x, Nat.mul_assoc]
  rw [e1, e2]
  generalize 65536 ^ (i + j) = W at *
  generalize 65536 ^ i * (x * B) = V at *
  have e3 : q * (W * 65536) = W * (65536 * q) := by rw [Nat.mul_comm q, Nat.mul_assoc]
  have e4 : W * r + W * (65536 * q) = W * d + W * (x * y) + W * c := by rw [← Nat.mul_add, hm, Nat.mul_add, Nat.mul_add]
  rw [e3]
  rw [Nat.mul_comm c W] at h
  omega
theorem mul_carry {lo : List Nat} {k c T : Nat} (hk : k < lo.length) (h : bv lo + c * 65536 ^ k = T) :
    bv (lo.set k ((lo.getD k 0 + c) % 65536)) + (lo.getD k 0 + c) / 65536 * 65536 ^ (k + 1) = T := by
  have hs := bv_set lo k ((lo.getD k 0 + c) % 65536) hk
  have hm := Nat.mod_add_div (lo.getD k 0 + c) 65536
  generalize lo.getD k 0 = d at *
  generalize (d + c) % 65536 = r at *
  generalize (d + c) / 65536 = q at *
  rw [Nat.pow_succ]
  generalize 65536 ^ k = W at *
  have e3 : q * (W * 65536) = W * (65536 * q) := by rw [Nat.mul_comm q, Nat.mul_assoc]
  have e4 : W * r + W * (65536 * q) = W * d + W * c := by rw [← Nat.mul_add, hm, Nat.mul_add]
  rw [e3]
  rw [Nat.mul_comm c W] at h
  omega
theorem mul_room {la lb lo : List Nat} {i k c : Nat} (hsa : Sm la) (hsb : Sm lb) (h : bv lo + c * 65536 ^ k = bv (la.take (i + 1)) * bv lb) (hc : 0 < c) (hi : i < la.length) : k < la.length + lb.length := by
  have h1 := bv_lt (hsa.take (i + 1))
  have h2 := bv_lt hsb
  rw [List.length_take, Nat.min_eq_left (by omega)] at h1
  have h3 : 65536 ^ k ≤ c * 65536 ^ k := Nat.le_mul_of_pos_left _ hc
  have h4 : bv (la.take (i + 1)) * bv lb < 65536 ^ (i + 1) * 65536 ^ lb.length := Nat.mul_lt_mul_of_lt_of_le h1 (Nat.le_of_lt h2) (Nat.pow_pos (by decide))
  rw [← Nat.pow_add] at h4
  have h5 : 65536 ^ k < 65536 ^ (i + 1 + lb.length) := by omega
  have := (Nat.pow_lt_pow_iff_right (by decide)).1 h5
  omega

end Go.Proofs.YtilccncddbgpbaaDoor
