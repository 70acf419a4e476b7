/-
Numbers by digits of base 65536, the lowest first: plain facts, no program in sight.
-/
import Derived.KernelRfl
namespace Go.Proofs.Ytopelehfffjfeaa

/-- the number that digits write -/
def bv : List Nat → Nat
  | [] => 0
  | d :: r => d + 65536 * bv r
/-- all are digits -/
def Sm (l : List Nat) : Prop := ∀ d ∈ l, d < 65536
/-- digits without a 0 above -/
def Can (l : List Nat) : Prop := Sm l ∧ ∀ d, l.getLast? = some d → 0 < d

@[simp] theorem bv_nil : bv [] = 0 := rfl
@[simp] theorem bv_cons (d : Nat) (r : List Nat) : bv (d :: r) = d + 65536 * bv r := rfl
theorem bv_append (a b : List Nat) : bv (a ++ b) = bv a + 65536 ^ a.length * bv b := by
  induction a with
  | nil => simp
  | cons d r ih =>
    simp only [List.cons_append, bv_cons, ih, List.length_cons, Nat.pow_succ]
    rw [Nat.mul_add, ← Nat.mul_assoc, Nat.mul_comm 65536 (65536 ^ r.length), Nat.add_assoc]
theorem bv_snoc (a : List Nat) (d : Nat) : bv (a ++ [d]) = bv a + 65536 ^ a.length * d := by rw [bv_append]; simp
theorem Sm.nil : Sm [] := fun _ h => by cases h
theorem Sm.append {a b : List Nat} (ha : Sm a) (hb : Sm b) : Sm (a ++ b) := fun d h => by
  rcases List.mem_append.1 h with h | h
  · exact ha d h
  · exact hb d h
theorem Sm.snoc {a : List Nat} {d : Nat} (ha : Sm a) (hd : d < 65536) : Sm (a ++ [d]) := ha.append fun x h => by
  rcases List.mem_singleton.1 h with rfl; exact hd
theorem Sm.take {a : List Nat} (ha : Sm a) (n : Nat) : Sm (a.take n) := fun d h => ha d (List.mem_of_mem_take h)
theorem Sm.drop {a : List Nat} (ha : Sm a) (n : Nat) : Sm (a.drop n) := fun d h => ha d (List.mem_of_mem_drop h)
theorem Sm.getD {a : List Nat} (ha : Sm a) (n : Nat) : a.getD n 0 < 65536 := by
  rcases Nat.lt_or_ge n a.length with h | h
  · rw [List.getD_eq_getElem?_getD, List.getElem?_eq_getElem h]
    exact ha _ (List.getElem_mem h)
  · rw [List.getD_eq_getElem?_getD, List.getElem?_eq_none h]; decide
theorem Sm.set {a : List Nat} (ha : Sm a) (n d : Nat) (hd : d < 65536) : Sm (a.set n d) := fun x h => by
  rcases List.mem_or_eq_of_mem_set h with h | rfl
  · exact ha x h
  · exact hd
theorem bv_lt {l : List Nat} (h : Sm l) : bv l < 65536 ^ l.length := by
  induction l with
  | nil => simp
  | cons d r ih =>
    have hd := h d (by simp)
    have := ih (fun x hx => h x (by simp [hx]))
    simp only [bv_cons, List.length_cons, Nat.pow_succ]
    omega
theorem take_succ_getD (l : List Nat) (k : Nat) (h : k < l.length) : l.take (k + 1) = l.take k ++ [l.getD k 0] := by
  rw [List.take_succ_eq_append_getElem h, List.getD_eq_getElem?_getD, List.getElem?_eq_getElem h]; rfl
theorem bv_take_succ (l : List Nat) (k : Nat) (h : k < l.length) : bv (l.take (k + 1)) = bv (l.take k) + 65536 ^ k * l.getD k 0 := by
  rw [take_succ_getD l k h, bv_snoc, List.length_take, Nat.min_eq_left (Nat.le_of_lt h)]
theorem bv_take_ge (l : List Nat) (k : Nat) (h : l.length ≤ k) : bv (l.take k) = bv l := by rw [List.take_of_length_le h]
theorem bv_take_drop (l : List Nat) (k : Nat) (h : k ≤ l.length) : bv l = bv (l.take k) + 65536 ^ k * bv (l.drop k) := by
  conv => lhs; rw [← List.take_append_drop k l]
  rw [bv_append, List.length_take, Nat.min_eq_left h]
/-- the next digit of a number that may have ended -/
theorem bv_take_next (l : List Nat) (k : Nat) : bv (l.take (k + 1)) = bv (l.take k) + 65536 ^ k * l.getD k 0 := by
  rcases Nat.lt_or_ge k l.length with h | h
  · exact bv_take_succ l k h
  · rw [bv_take_ge l _ h, bv_take_ge l _ (by omega), List.getD_eq_getElem?_getD, List.getElem?_eq_none h]; simp
theorem bv_set (l : List Nat) (k d : Nat) (h : k < l.length) : bv (l.set k d) + 65536 ^ k * l.getD k 0 = bv l + 65536 ^ k * d := by
  induction l generalizing k with
  | nil => simp at h
  | cons x r ih =>
    cases k with
    | zero => simp; omega
    | succ k =>
      have := ih k (by simpa using h)
      simp only [List.set_cons_succ, bv_cons, List.getD_cons_succ, Nat.pow_succ]
      rw [Nat.mul_comm (65536 ^ k) 65536, Nat.mul_assoc, Nat.mul_assoc]
      omega
theorem bv_zero {l : List Nat} (h : ∀ d ∈ l, d = 0) : bv l = 0 := by
  induction l with
  | nil => rfl
  | cons d r ih =>
    have := h d (by simp)
    have := ih (fun x hx => h x (by simp [hx]))
    simp [*]
theorem bv_replicate (n : Nat) : bv (List.replicate n 0) = 0 := bv_zero fun _ h => (List.mem_replicate.1 h).2

theorem Can.nil : Can [] := ⟨Sm.nil, fun d h => by simp at h⟩
theorem Can.tail {d : Nat} {r : List Nat} (h : Can (d :: r)) : Can r := by
  refine ⟨fun x hx => h.1 x (by simp [hx]), fun x hx => h.2 x ?_⟩
  cases r with
  | nil => simp at hx
  | cons y r => rw [List.getLast?_cons_cons]; exact hx
theorem Can.zero {l : List Nat} (h : Can l) (hz : bv l = 0) : l = [] := by
  induction l with
  | nil => rfl
  | cons d r ih =>
    simp only [bv_cons] at hz
    have hr := ih h.tail (by omega)
    subst hr
    have := h.2 d (by simp)
    omega
/-- the digits of a number are its own -/
theorem Can.unique {a b : List Nat} (ha : Can a) (hb : Can b) (h : bv a = bv b) : a = b := by
  induction a generalizing b with
  | nil => exact (hb.zero (by simpa using h.symm)).symm
  | cons d r ih =>
    cases b with
    | nil => exact ha.zero (by simpa using h)
    | cons e q =>
      have h1 := ha.1 d (by simp)
      have h2 := hb.1 e (by simp)
      simp only [bv_cons] at h
      obtain rfl : d = e := by omega
      rw [ih ha.tail hb.tail (by omega)]
theorem Can.lower {l : List Nat} (h : Can l) (hne : l ≠ []) : 65536 ^ (l.length - 1) ≤ bv l := by
  obtain ⟨a, d, rfl⟩ : ∃ a d, l = a ++ [d] := ⟨l.dropLast, l.getLast hne, (List.dropLast_concat_getLast hne).symm⟩
  have hd := h.2 d (by simp)
  rw [bv_snoc, List.length_append, List.length_singleton, Nat.add_sub_cancel]
  calc 65536 ^ a.length = 65536 ^ a.length * 1 := (Nat.mul_one _).symm
    _ ≤ 65536 ^ a.length * d := Nat.mul_le_mul_left _ hd
    _ ≤ _ := Nat.le_add_left _ _
/-- fewer digits: less -/
theorem Can.lt_of_length {a b : List Nat} (ha : Sm a) (hb : Can b) (h : a.length < b.length) : bv a < bv b := by
  have h1 := bv_lt ha
  have h2 := hb.lower (by rintro rfl; simp at h)
  have h3 : 65536 ^ a.length ≤ 65536 ^ (b.length - 1) := Nat.pow_le_pow_right (by decide) (by omega)
  omega
/-- what 'trim' leaves: up to the last digit that isn't 0 -/
theorem trim_can {l : List Nat} (hs : Sm l) (n : Nat) (hn : n ≤ l.length) (hz : ∀ k, n ≤ k → k < l.length → l.getD k 0 = 0) (hl : 0 < n → 0 < l.getD (n - 1) 0) : Can (l.take n) ∧ bv (l.take n) = bv l := by
  refine ⟨⟨hs.take n, fun d hd => ?_⟩, ?_⟩
  · rcases Nat.eq_zero_or_pos n with rfl | hp
    · simp at hd
    · have e : l.take n = l.take (n - 1) ++ [l.getD (n - 1) 0] := by
        have := take_succ_getD l (n - 1) (by omega)
        rwa [Nat.sub_add_cancel hp] at this
      rw [e, List.getLast?_append] at hd
      simp at hd
      have := hl hp
      simp at this
      omega
  · rw [bv_take_drop l n hn, bv_zero (l := l.drop n), Nat.mul_zero, Nat.add_zero]
    intro d hd
    obtain ⟨i, hi, rfl⟩ := List.mem_iff_getElem.1 hd
    simp only [List.length_drop] at hi
    have := hz (n + i) (by omega) (by omega)
    rw [List.getD_eq_getElem?_getD, List.getElem?_eq_getElem (by omega)] at this
    simpa using this
end Go.Proofs.Ytopelehfffjfeaa
