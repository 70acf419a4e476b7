/-
Messages as lists of bytes, without the program: the table of kinds, which messages may be, their bytes, cut and bounded messages.
Numbers read from bytes; a packet's size; names with commas, cut again.
-/
import Derived.Test.YtcbkbjpdfanjpaaGreatDoorPk17
namespace Go.Proofs.YtcbkbjpdfanjpaaGreatDoor.Ms
abbrev S := List UInt8
/-- the kinds: their numbers, and their fields' letters -/
def rows : List (Nat × S) := [(1, [117, 115, 115]), (2, [115]), (3, [117]), (4, [98, 115, 115]), (5, [115]), (6, [115]), (20, [99, 110, 110, 110, 110, 110, 110, 110, 110, 110, 110, 98, 117]), (21, []), (30, [115]), (31, [115, 115, 115]), (50, [115, 115, 115, 114]), (51, [110, 98]), (52, []), (53, [115, 115]), (60, [115, 115]), (80, [115, 98, 114]), (81, [114]), (82, []), (90, [115, 117, 117, 117, 114]), (91, [117, 117, 117, 117, 114]), (92, [117, 117, 115, 115]), (93, [117, 117]), (94, [117, 115]), (95, [117, 117, 115]), (96, [117]), (97, [117]), (98, [117, 115, 98, 114]), (99, [117]), (100, [117])]
def letters (k : Int) : Option S := (rows.find? (fun r => decide ((r.1 : Int) = k))).map (·.2)
/-- a fourth kind of letter, a text's: s, c, r -/
def isS (c : UInt8) : Bool := decide (c = 115) || decide (c = 99) || decide (c = 114)
def six (c : UInt8) : Bool := decide (c = 117) || decide (c = 110) || decide (c = 98) || isS c
theorem letters_mem {k : Int} {ls : S} (h : letters k = some ls) : ∃ r ∈ rows, (r.1 : Int) = k ∧ r.2 = ls := by
  unfold letters at h
  cases hf : rows.find? (fun r => decide ((r.1 : Int) = k)) with
  | none => rw [hf] at h; cases h
  | some r =>
    rw [hf] at h
    exact ⟨r, List.mem_of_find?_eq_some hf, by simpa using List.find?_some hf, Option.some.inj h⟩
def rLast (ls : S) : Bool := !(ls.dropLast.contains 114)
theorem letters_ok {k : Int} {ls : S} (h : letters k = some ls) : ls.all six = true ∧ rLast ls = true ∧ ls.length ≤ 13 ∧ 1 ≤ k ∧ k ≤ 100 := by
  obtain ⟨r, hr, hk, rfl⟩ := letters_mem h
  have : ∀ r ∈ rows, (r.2.all six = true ∧ rLast r.2 = true ∧ r.2.length ≤ 13) ∧ 1 ≤ r.1 ∧ r.1 ≤ 100 := by decide
  have := this r hr
  exact ⟨this.1.1, this.1.2.1, this.1.2.2, by omega, by omega⟩
/-- a name -/
def okN (c : UInt8) : Bool := decide (33 ≤ c.toNat) && decide (c.toNat ≤ 126) && decide (c ≠ 44)
def name (w : S) : Bool := decide (w ≠ []) && decide (w.length ≤ 64) && w.all okN
structure M where
  k : Int
  u : List Nat
  s : List S
  n : List (List S)
  b : List Bool
def be4 (n : Nat) : S := [UInt8.ofNat (n / 16777216), UInt8.ofNat (n / 65536), UInt8.ofNat (n / 256), UInt8.ofNat n]
def tx (x : S) : S := be4 x.length ++ x
def nm (l : List S) : S := tx (Tm.join l)
/-- the bytes of fields, by their letters -/
def enc : S → List Nat → List S → List (List S) → List Bool → S
  | [], _, _, _, _ => []
  | c :: r, u, s, n, b =>
    if c = 117 then be4 (u.headD 0) ++ enc r u.tail s n b
    else if c = 110 then nm (n.headD []) ++ enc r u s n.tail b
    else if c = 98 then [if b.headD false then 1 else 0] ++ enc r u s n b.tail
    else if c = 115 then tx (s.headD []) ++ enc r u s.tail n b
    else s.headD [] ++ enc r u s.tail n b
/-- do the fields fit their letters? -/
def fits : S → List Nat → List S → List (List S) → List Bool → Prop
  | [], u, s, n, b => u = [] ∧ s = [] ∧ n = [] ∧ b = []
  | c :: r, u, s, n, b =>
    if c = 117 then (∃ x u', u = x :: u' ∧ fits r u' s n b)
    else if c = 110 then (∃ l n', n = l :: n' ∧ (∀ w ∈ l, name w = true) ∧ fits r u s n' b)
    else if c = 98 then (∃ x b', b = x :: b' ∧ fits r u s n b')
    else (c = 115 ∨ c = 99 ∨ (c = 114 ∧ r = [])) ∧ ∃ x s', s = x :: s' ∧ (c = 99 → x.length = 16) ∧ fits r u s' n b
/-- short fields -/
structure Sh (m : M) : Prop where
  k : -9223372036854775808 ≤ m.k ∧ m.k ≤ 9223372036854775807
  u : m.u.length ≤ 9 ∧ ∀ x ∈ m.u, x < 4294967296
  s : m.s.length ≤ 9 ∧ ∀ x ∈ m.s, x.length ≤ 100
  n : m.n.length ≤ 14 ∧ ∀ l ∈ m.n, l.length ≤ 6 ∧ ∀ w ∈ l, w.length ≤ 70
  b : m.b.length ≤ 9
/-- a message that may be -/
def ok (m : M) : Prop := ∃ ls, letters m.k = some ls ∧ fits ls m.u m.s m.n m.b
def bytes (m : M) (ls : S) : S := UInt8.ofNat m.k.toNat :: enc ls m.u m.s m.n m.b
/-- so many letters -/
def cnt (p : UInt8 → Bool) (ls : S) : Nat := (ls.filter p).length
theorem cnt_cons (p : UInt8 → Bool) (c : UInt8) (r : S) : cnt p (c :: r) = (if p c then 1 else 0) + cnt p r := by
  unfold cnt
  rw [List.filter_cons]
  split <;> simp <;> omega
theorem cnt_app (p : UInt8 → Bool) (a b : S) : cnt p (a ++ b) = cnt p a + cnt p b := by simp [cnt]
theorem fits_of : ∀ (ls : S) (u : List Nat) (s : List S) (n : List (List S)) (b : List Bool), ls.all six = true → rLast ls = true →
    u.length = cnt (fun c => decide (c = 117)) ls → s.length = cnt isS ls → n.length = cnt (fun c => decide (c = 110)) ls → b.length = cnt (fun c => decide (c = 98)) ls →
    (∀ i, ls[i]? = some 99 → (s.getD (cnt isS (ls.take i)) []).length = 16) → (∀ l ∈ n, ∀ w ∈ l, name w = true) → fits ls u s n b
  | [], u, s, n, b, _, _, hu, hs, hn, hb, _, _ => ⟨List.eq_nil_of_length_eq_zero hu, List.eq_nil_of_length_eq_zero hs, List.eq_nil_of_length_eq_zero hn, List.eq_nil_of_length_eq_zero hb⟩
  | c :: r, u, s, n, b, h6, hr, hu, hs, hn, hb, hc, hw => by
    rw [List.all_cons, Bool.and_eq_true] at h6
    have hr' : rLast r = true := by
      unfold rLast at hr ⊢
      cases r with
      | nil => rfl
      | cons d q => simpa using fun h => (by simp at hr; exact hr.2 h)
    rw [cnt_cons] at hu hs hn hb
    have hc' : ∀ (s' : List S), (∀ k, s.getD (k + (if isS c then 1 else 0)) [] = s'.getD k []) → ∀ i, r[i]? = some 99 → (s'.getD (cnt isS (r.take i)) []).length = 16 := fun s' hs' i hi => by
      have := hc (i + 1) hi
      rw [List.take_succ_cons, cnt_cons, Nat.add_comm, hs'] at this
      exact this
    unfold fits
    have h6c := h6.1
    by_cases e1 : c = 117
    · subst e1
      rw [if_pos rfl]
      cases u with
      | nil => simp at hu; omega
      | cons x u' => exact ⟨x, u', rfl, fits_of r u' s n b h6.2 hr' (by simp at hu; omega) (by simpa [isS] using hs) (by simpa using hn) (by simpa using hb) (hc' s (fun k => rfl)) hw⟩
    · rw [if_neg e1]
      by_cases e2 : c = 110
      · subst e2
        rw [if_pos rfl]
        cases n with
        | nil => simp at hn; omega
        | cons x n' => exact ⟨x, n', rfl, hw x List.mem_cons_self, fits_of r u s n' b h6.2 hr' (by simpa using hu) (by simpa [isS] using hs) (by simp at hn; omega) (by simpa using hb) (hc' s (fun k => rfl)) (fun l hl => hw l (List.mem_cons_of_mem _ hl))⟩
      · rw [if_neg e2]
        by_cases e3 : c = 98
        · subst e3
          rw [if_pos rfl]
          cases b with
          | nil => simp at hb; omega
          | cons x b' => exact ⟨x, b', rfl, fits_of r u s n b' h6.2 hr' (by simpa using hu) (by simpa [isS] using hs) (by simpa using hn) (by simp at hb; omega) (hc' s (fun k => rfl)) hw⟩
        · rw [if_neg e3]
          have hS : isS c = true := by
            unfold six at h6c
            simpa [e1, e2, e3] using h6c
          rw [hS, if_pos rfl] at hs
          cases s with
          | nil => simp at hs; omega
          | cons x s' =>
            refine ⟨?_, x, s', rfl, fun e => ?_, fits_of r u s' n b h6.2 hr' (by simpa [e1] using hu) (by simp at hs; omega) (by simpa [e2] using hn) (by simpa [e3] using hb) (hc' s' (fun k => by rw [hS, if_pos rfl]; rfl)) hw⟩
            · unfold isS at hS
              simp only [Bool.or_eq_true, decide_eq_true_eq] at hS
              rcases hS with (h | h) | h
              · exact .inl h
              · exact .inr (.inl h)
              · refine .inr (.inr ⟨h, ?_⟩)
                cases r with
                | nil => rfl
                | cons d q =>
                  subst h
                  unfold rLast at hr
                  simp at hr
            · subst e
              have := hc 0 rfl
              exact this
end Go.Proofs.YtcbkbjpdfanjpaaGreatDoor.Ms

namespace Go.Proofs.YtcbkbjpdfanjpaaGreatDoor.Ms
/-- the bytes' number, the highest first -/
def rdn (l : S) : Nat := l.foldl (fun a b => a * 256 + b.toNat) 0
theorem rdn_be4 (n : Nat) (h : n < 4294967296) : rdn (be4 n) = n := by
  unfold rdn be4
  simp only [List.foldl_cons, List.foldl_nil, UInt8.toNat_ofNat']
  omega
theorem be4_len (n : Nat) : (be4 n).length = 4 := rfl
theorem tx_len (x : S) : (tx x).length = 4 + x.length := by
  unfold tx
  rw [List.length_append, be4_len]
def padN (ah n : Nat) : Nat := 4 + (8 - (ah + n + 4) % 8) % 8
theorem padN_ok (ah n : Nat) : 4 ≤ padN ah n ∧ padN ah n ≤ 11 ∧ (n + padN ah n + ah) % 8 = 0 := by
  unfold padN
  omega
def bodyL (p : S) (pad : Nat) : S := UInt8.ofNat pad :: (p ++ List.replicate pad 0)
theorem bodyL_len (p : S) (pad : Nat) : (bodyL p pad).length = p.length + 1 + pad := by
  unfold bodyL
  rw [List.length_cons, List.length_append, List.length_replicate]
  omega
theorem body_pay (p : S) (pad : Nat) : ((bodyL p pad).take (p.length + 1)).drop 1 = p := by
  unfold bodyL
  rw [List.take_succ_cons, List.drop_succ_cons, List.drop_zero, List.take_left']
  rfl
/-! ### names -/
/-- cut at commas -/
def cut44 (l : S) : List S := match l with
  | [] => [[]]
  | c :: r => if c = 44 then [] :: cut44 r else match cut44 r with
    | [] => [[c]]
    | a :: q => (c :: a) :: q
theorem cut44_ne (l : S) : cut44 l ≠ [] := by
  cases l with
  | nil => simp [cut44]
  | cons c r =>
    unfold cut44
    split
    · simp
    · split <;> simp
theorem cut44_cons {c : UInt8} (h : c ≠ 44) (r : S) {a : S} {q : List S} (hr : cut44 r = a :: q) : cut44 (c :: r) = (c :: a) :: q := by
  have e : cut44 (c :: r) = if c = 44 then [] :: cut44 r else match cut44 r with
    | [] => [[c]]
    | a :: q => (c :: a) :: q := rfl
  rw [e, if_neg h, hr]
theorem cut44_free {w : S} (hw : ∀ c ∈ w, c ≠ 44) (r : S) : cut44 (w ++ 44 :: r) = w :: cut44 r := by
  induction w with
  | nil => simp [cut44]
  | cons c t ih =>
    have h1 := hw c List.mem_cons_self
    rw [List.cons_append]
    exact cut44_cons h1 _ (ih (fun d hd => hw d (List.mem_cons_of_mem _ hd)))
theorem cut44_one {w : S} (hw : ∀ c ∈ w, c ≠ 44) : cut44 w = [w] := by
  induction w with
  | nil => rfl
  | cons c t ih =>
    have h1 := hw c List.mem_cons_self
    exact cut44_cons h1 _ (ih (fun d hd => hw d (List.mem_cons_of_mem _ hd)))
theorem name_free {w : S} (h : name w = true) : ∀ c ∈ w, c ≠ 44 := fun c hc e => by
  unfold name at h
  rw [Bool.and_eq_true] at h
  have := List.all_eq_true.1 h.2 c hc
  subst e
  revert this
  decide
theorem name_ne {w : S} (h : name w = true) : w ≠ [] := by
  unfold name at h
  rw [Bool.and_eq_true, Bool.and_eq_true] at h
  exact of_decide_eq_true h.1.1
theorem cut44_join : ∀ (l : List S), l ≠ [] → (∀ w ∈ l, name w = true) → cut44 (Tm.join l) = l
  | [], h, _ => absurd rfl h
  | [a], _, hw => cut44_one (name_free (hw a List.mem_cons_self))
  | a :: b :: r, _, hw => by
    show cut44 (a ++ 44 :: Tm.join (b :: r)) = _
    rw [cut44_free (name_free (hw a List.mem_cons_self)), cut44_join (b :: r) (by simp) (fun w h => hw w (List.mem_cons_of_mem _ h))]
theorem join_nil : ∀ (l : List S), (∀ w ∈ l, name w = true) → (Tm.join l = [] ↔ l = [])
  | [], _ => by simp [Tm.join]
  | [a], hw => by
    have := name_ne (hw a List.mem_cons_self)
    constructor
    · intro h; exact absurd h this
    · intro h; cases h
  | a :: b :: r, hw => by
    constructor
    · intro h
      have := congrArg List.length h
      rw [Tm.join_cons _ _ (by simp)] at this
      simp at this
    · intro h; cases h
theorem join_len (n : Nat) : ∀ (l : List S), (∀ w ∈ l, w.length ≤ n) → (Tm.join l).length ≤ l.length * (n + 1)
  | [], _ => by simp [Tm.join]
  | [a], hw => by
    have := hw a List.mem_cons_self
    show a.length ≤ 1 * (n + 1)
    omega
  | a :: b :: r, hw => by
    have h1 := hw a List.mem_cons_self
    have h2 := join_len n (b :: r) (fun w h => hw w (List.mem_cons_of_mem _ h))
    rw [Tm.join_cons _ _ (by simp), List.length_append, List.length_cons, List.length_cons]
    rw [Nat.add_mul]
    omega
/-! ### fields, one by one -/
theorem fits_u {r : S} {u : List Nat} {s : List S} {n : List (List S)} {b : List Bool} (h : fits (117 :: r) u s n b) : ∃ x u', u = x :: u' ∧ fits r u' s n b ∧ enc (117 :: r) u s n b = be4 x ++ enc r u' s n b := by
  unfold fits at h
  rw [if_pos rfl] at h
  obtain ⟨x, u', rfl, h⟩ := h
  exact ⟨x, u', rfl, h, rfl⟩
theorem fits_n {r : S} {u : List Nat} {s : List S} {n : List (List S)} {b : List Bool} (h : fits (110 :: r) u s n b) : ∃ x n', n = x :: n' ∧ (∀ w ∈ x, name w = true) ∧ fits r u s n' b ∧ enc (110 :: r) u s n b = nm x ++ enc r u s n' b := by
  unfold fits at h
  rw [if_neg (by decide), if_pos rfl] at h
  obtain ⟨x, n', rfl, hw, h⟩ := h
  exact ⟨x, n', rfl, hw, h, rfl⟩
theorem fits_b {r : S} {u : List Nat} {s : List S} {n : List (List S)} {b : List Bool} (h : fits (98 :: r) u s n b) : ∃ x b', b = x :: b' ∧ fits r u s n b' ∧ enc (98 :: r) u s n b = (if x then 1 else 0) :: enc r u s n b' := by
  unfold fits at h
  rw [if_neg (by decide), if_neg (by decide), if_pos rfl] at h
  obtain ⟨x, b', rfl, h⟩ := h
  exact ⟨x, b', rfl, h, rfl⟩
theorem fits_s {c : UInt8} {r : S} {u : List Nat} {s : List S} {n : List (List S)} {b : List Bool} (h : fits (c :: r) u s n b) (h1 : c ≠ 117) (h2 : c ≠ 110) (h3 : c ≠ 98) : (c = 115 ∨ c = 99 ∨ (c = 114 ∧ r = [])) ∧
    ∃ x s', s = x :: s' ∧ (c = 99 → x.length = 16) ∧ fits r u s' n b ∧ enc (c :: r) u s n b = (if c = 115 then tx x else x) ++ enc r u s' n b := by
  unfold fits at h
  rw [if_neg h1, if_neg h2, if_neg h3] at h
  obtain ⟨hc, x, s', rfl, h16, h⟩ := h
  refine ⟨hc, x, s', rfl, h16, h, ?_⟩
  conv => lhs; unfold enc
  rw [if_neg h1, if_neg h2, if_neg h3]
  split <;> rfl
theorem fits_nil {u : List Nat} {s : List S} {n : List (List S)} {b : List Bool} (h : fits [] u s n b) : u = [] ∧ s = [] ∧ n = [] ∧ b = [] := h
/-- how long fields are at most -/
theorem enc_len : ∀ (ls : S) (u : List Nat) (s : List S) (n : List (List S)) (b : List Bool), fits ls u s n b → (∀ x ∈ s, x.length ≤ 100) → (∀ l ∈ n, l.length ≤ 6) → (enc ls u s n b).length ≤ 400 * ls.length
  | [], _, _, _, _, _, _, _ => Nat.zero_le _
  | c :: r, u, s, n, b, h, hs, hn => by
    rw [List.length_cons]
    by_cases e1 : c = 117
    · subst e1
      obtain ⟨x, u', rfl, hf, he⟩ := fits_u h
      have := enc_len r u' s n b hf hs hn
      rw [he, List.length_append, be4_len]
      omega
    · by_cases e2 : c = 110
      · subst e2
        obtain ⟨x, n', rfl, hw, hf, he⟩ := fits_n h
        have := enc_len r u s n' b hf hs (fun l hl => hn l (List.mem_cons_of_mem _ hl))
        have h1 := join_len 64 x (fun w hw' => by
          have := hw w hw'
          unfold name at this
          rw [Bool.and_eq_true, Bool.and_eq_true] at this
          exact of_decide_eq_true this.1.2)
        have h2 := hn x List.mem_cons_self
        rw [he, List.length_append]
        unfold nm
        rw [tx_len]
        have h3 : x.length * (64 + 1) ≤ 6 * 65 := Nat.mul_le_mul_right _ h2
        omega
      · by_cases e3 : c = 98
        · subst e3
          obtain ⟨x, b', rfl, hf, he⟩ := fits_b h
          have := enc_len r u s n b' hf hs hn
          rw [he, List.length_cons]
          omega
        · obtain ⟨_, x, s', rfl, _, hf, he⟩ := fits_s h e1 e2 e3
          have := enc_len r u s' n b hf (fun y hy => hs y (List.mem_cons_of_mem _ hy)) hn
          have hx := hs x List.mem_cons_self
          rw [he, List.length_append]
          split
          · rw [tx_len]; omega
          · omega
end Go.Proofs.YtcbkbjpdfanjpaaGreatDoor.Ms
