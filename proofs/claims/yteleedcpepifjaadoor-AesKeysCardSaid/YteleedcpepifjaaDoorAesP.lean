/-
The plain mathematics of the blocks: states and keys as lists. No program in sight.
-/
import Derived.Test.YteleedcpepifjaaDoorAesT
namespace Go.Proofs.YteleedcpepifjaaDoor.AesP
set_option maxRecDepth 100000
theorem tw_lt {a : Nat} (h : a < 256) : tw a < 256 := tw_lt' ⟨a, h⟩
theorem sub_eq {b : Nat} (h : b < 256) : subN b = subP b := by
  have h1 : powR b 254 = invP b := inv_fin ⟨b, h⟩
  have h2 : invP b < 256 := invlt_fin ⟨b, h⟩
  have h3 := (aff_fin ⟨invP b, h2⟩).1
  unfold subN subP
  rw [h1]; exact h3
theorem sub_lt {b : Nat} (h : b < 256) : subN b < 256 := by
  have h1 : powR b 254 = invP b := inv_fin ⟨b, h⟩
  have h2 : invP b < 256 := invlt_fin ⟨b, h⟩
  have h3 := (aff_fin ⟨invP b, h2⟩).2
  unfold subN
  rw [h1]; exact h3
/-- the tables -/
def sbT : List Nat := sbL 256
def bkT : List Nat := bkL 256
theorem sb_at {b : Nat} (h : b < 256) : sbT.getD b 0 = subN b := by rw [sub_eq h]; exact (sb_fin ⟨b, h⟩).1
theorem bk_lt {b : Nat} (h : b < 256) : bkT.getD b 0 < 256 := (sb_fin ⟨b, h⟩).2.2.2
theorem sb_lt {b : Nat} (h : b < 256) : sbT.getD b 0 < 256 := by rw [sb_at h]; exact sub_lt h
theorem bk_sb {b : Nat} (h : b < 256) : bkT.getD (sbT.getD b 0) 0 = b := by
  have h1 : sbT.getD b 0 = subP b := (sb_fin ⟨b, h⟩).1
  rw [h1]; exact (sb_fin ⟨b, h⟩).2.1
theorem sb_bk {b : Nat} (h : b < 256) : sbT.getD (bkT.getD b 0) 0 = b := by
  have h1 : sbT.getD (bkT.getD b 0) 0 = subP (bkT.getD b 0) := (sb_fin ⟨bkT.getD b 0, bk_lt h⟩).1
  rw [h1]; exact (sb_fin ⟨b, h⟩).2.2.1
theorem set_len (l : List Nat) (i d : Nat) : (l.set i d).length = l.length := List.length_set ..
theorem sbL_len : ∀ n, (sbL n).length = 256
  | 0 => List.length_replicate
  | n + 1 => by unfold sbL; rw [List.length_set]; exact sbL_len n
theorem bkL_len : ∀ n, (bkL n).length = 256
  | 0 => List.length_replicate
  | n + 1 => by unfold bkL; rw [List.length_set]; exact bkL_len n
theorem pwL_len : ∀ n, (pwL n).length = 256
  | 0 => List.length_replicate
  | n + 1 => by unfold pwL; rw [List.length_set]; exact pwL_len n
theorem whL_len : ∀ n, (whL n).length = 256
  | 0 => List.length_replicate
  | n + 1 => by unfold whL; rw [List.length_set]; exact whL_len n

/-! ### lists made step by step -/
def ml (n : Nat) (f : Nat → Nat) : List Nat := (List.range n).map f
theorem ml_len (n : Nat) (f : Nat → Nat) : (ml n f).length = n := by simp [ml]
theorem ml_get {n : Nat} (f : Nat → Nat) {i : Nat} (h : i < n) : (ml n f).getD i 0 = f i := by simp [ml, h]
theorem ml_congr {n : Nat} {f g : Nat → Nat} (h : ∀ i, i < n → f i = g i) : ml n f = ml n g := by
  unfold ml
  apply List.map_congr_left
  intro i hi
  exact h i (List.mem_range.1 hi)
theorem ml_eta {n : Nat} {l : List Nat} (h : l.length = n) : ml n (fun i => l.getD i 0) = l := by
  subst h
  apply List.ext_getElem (by simp [ml])
  intro i h1 h2
  simp [ml, h2]
def bl (f g : Nat → Nat) (m n : Nat) : List Nat := ml n fun i => if i < m then f i else g i
theorem bl_len (f g : Nat → Nat) (m n : Nat) : (bl f g m n).length = n := ml_len _ _
theorem bl_zero (f g : Nat → Nat) (n : Nat) : bl f g 0 n = ml n g := ml_congr fun i _ => if_neg (Nat.not_lt_zero i)
theorem bl_full (f g : Nat → Nat) (n : Nat) : bl f g n n = ml n f := ml_congr fun _ h => if_pos h
theorem bl_old (f g : Nat → Nat) {m n i : Nat} (h : m ≤ i) (hn : i < n) : (bl f g m n).getD i 0 = g i := by unfold bl; rw [ml_get _ hn, if_neg (by omega)]
theorem bl_new (f g : Nat → Nat) {m n i : Nat} (h : i < m) (hn : i < n) : (bl f g m n).getD i 0 = f i := by unfold bl; rw [ml_get _ hn, if_pos h]
theorem bl_set (f g : Nat → Nat) {m n : Nat} : (bl f g m n).set m (f m) = bl f g (m + 1) n := by
  apply List.ext_getElem?
  intro i
  rcases Nat.lt_or_ge i n with hi | hi
  · by_cases e : m = i
    · subst e
      rw [List.getElem?_set_self (by rw [bl_len]; exact hi)]
      simp [bl, ml, hi]
    · rw [List.getElem?_set_ne e]
      by_cases h : i < m
      · have h2 : i < m + 1 := by omega
        simp [bl, ml, hi, h, h2]
      · have h2 : ¬ i < m + 1 := by omega
        simp [bl, ml, hi, h, h2]
  · rw [List.getElem?_eq_none (by rw [List.length_set, bl_len]; exact hi), List.getElem?_eq_none (by rw [bl_len]; exact hi)]

/-- all of them are bytes -/
def By (l : List Nat) : Prop := ∀ x ∈ l, x < 256
theorem By.get {l : List Nat} (h : By l) (i : Nat) : l.getD i 0 < 256 := by
  rw [List.getD_eq_getElem?_getD]
  rcases Nat.lt_or_ge i l.length with hi | hi
  · rw [List.getElem?_eq_getElem hi]; exact h _ (List.getElem_mem hi)
  · rw [List.getElem?_eq_none hi]; exact Nat.zero_lt_succ _
theorem By.ml {n : Nat} {f : Nat → Nat} (h : ∀ i, i < n → f i < 256) : By (ml n f) := by
  intro x hx
  obtain ⟨i, hi, rfl⟩ := List.mem_map.1 hx
  exact h i (List.mem_range.1 hi)
theorem By.drop {l : List Nat} (h : By l) (n : Nat) : By (l.drop n) := fun x hx => h x (List.mem_of_mem_drop hx)
theorem xor_lt {a b : Nat} (ha : a < 256) (hb : b < 256) : a ^^^ b < 256 := Nat.xor_lt_two_pow (n := 8) ha hb

/-! ### a block, forth and back -/
def shI (b i : Nat) : Nat := 4 * ((i / 4 + b * (i % 4)) % 4) + i % 4
def shF (T : List Nat) (b : Nat) (s : List Nat) : List Nat := ml 16 fun i => T.getD (s.getD (shI b i) 0) 0
def keyF (s W : List Nat) : List Nat := ml 16 fun i => s.getD i 0 ^^^ W.getD i 0
def mixA (m s : List Nat) (i : Nat) : Nat → Nat
  | 0 => 0
  | k + 1 => mixA m s i k ^^^ times (s.getD (4 * (i / 4) + k) 0) (m.getD ((k + 4 - i % 4) % 4) 0)
def mixF (m s : List Nat) : List Nat := ml 16 fun i => mixA m s i 4
def m2 : List Nat := [2, 3, 1, 1]
def m14 : List Nat := [14, 11, 13, 9]
theorem shI_lt (b : Nat) {i : Nat} (h : i < 16) : shI b i < 16 := by unfold shI; omega
theorem keyF_key (W : List Nat) {s : List Nat} (hs : s.length = 16) : keyF (keyF s W) W = s := by
  have h : keyF (keyF s W) W = ml 16 fun i => s.getD i 0 := ml_congr fun i hi => by
    unfold keyF
    rw [ml_get _ hi, Nat.xor_assoc, Nat.xor_self, Nat.xor_zero]
  rw [h, ml_eta hs]
theorem sh_sh13 : ∀ i : Fin 16, shI 1 (shI 3 i) = i ∧ shI 3 (shI 1 i) = i := by decide
theorem sh_back {s : List Nat} (hs : s.length = 16) (hb : By s) : shF bkT 3 (shF sbT 1 s) = s := by
  have h : shF bkT 3 (shF sbT 1 s) = ml 16 fun i => s.getD i 0 := ml_congr fun i hi => by
    unfold shF
    rw [ml_get _ (shI_lt 3 hi), (sh_sh13 ⟨i, hi⟩).1]
    exact bk_sb (hb.get i)
  rw [h, ml_eta hs]
theorem sh_forth {s : List Nat} (hs : s.length = 16) (hb : By s) : shF sbT 1 (shF bkT 3 s) = s := by
  have h : shF sbT 1 (shF bkT 3 s) = ml 16 fun i => s.getD i 0 := ml_congr fun i hi => by
    unfold shF
    rw [ml_get _ (shI_lt 1 hi), (sh_sh13 ⟨i, hi⟩).2]
    exact sb_bk (hb.get i)
  rw [h, ml_eta hs]

/-! products are sums of doublings -/
theorem tw_xor {x y : Nat} (hx : x < 256) (hy : y < 256) : tw (x ^^^ y) = tw x ^^^ tw y := by
  have e1 : (x ^^^ y) * 2 % 256 = (x * 2 % 256) ^^^ (y * 2 % 256) := by
    have h := Nat.xor_mod_two_pow (a := x * 2) (b := y * 2) (n := 8)
    have h2 : (x ^^^ y) * 2 = (x * 2) ^^^ (y * 2) := by
      have := Nat.shiftLeft_xor_distrib (a := x) (b := y) (i := 1)
      simpa [Nat.shiftLeft_eq] using this
    rw [h2]; exact h
  have e2 : (x ^^^ y) / 128 = (x / 128) ^^^ (y / 128) := by
    have := Nat.shiftRight_xor_distrib (a := x) (b := y) (i := 7)
    simpa [Nat.shiftRight_eq_div_pow] using this
  have e3 : ∀ p q : Nat, p < 2 → q < 2 → (p ^^^ q) * 27 = p * 27 ^^^ q * 27 := by
    intro p q hp hq
    have h1 : p = 0 ∨ p = 1 := by omega
    have h2 : q = 0 ∨ q = 1 := by omega
    rcases h1 with rfl | rfl <;> rcases h2 with rfl | rfl <;> rfl
  unfold tw
  rw [e1, e2, e3 _ _ (by omega) (by omega)]
  ac_rfl
/-- the products that the columns want -/
def t9 (a : Nat) : Nat := tw (tw (tw a)) ^^^ a
def t11 (a : Nat) : Nat := tw (tw (tw a)) ^^^ (tw a ^^^ a)
def t13 (a : Nat) : Nat := tw (tw (tw a)) ^^^ (tw (tw a) ^^^ a)
def t14 (a : Nat) : Nat := tw (tw (tw a)) ^^^ (tw (tw a) ^^^ tw a)
theorem times_great : ∀ a : Fin 256, times a 9 = t9 a ∧ times a 11 = t11 a ∧ times a 13 = t13 a ∧ times a 14 = t14 a := by decide +kernel
theorem col_fin : ∀ a : Fin 256, t14 (tw a) ^^^ (t11 a ^^^ (t13 a ^^^ t9 (tw a ^^^ a))) = a ∧ t14 (tw a ^^^ a) ^^^ (t11 (tw a) ^^^ (t13 a ^^^ t9 a)) = 0 ∧
    t14 a ^^^ (t11 (tw a ^^^ a) ^^^ (t13 (tw a) ^^^ t9 a)) = 0 ∧ t14 a ^^^ (t11 a ^^^ (t13 (tw a ^^^ a) ^^^ t9 (tw a))) = 0 := by decide +kernel
theorem cof_fin : ∀ a : Fin 256, tw (t14 a) ^^^ ((tw (t9 a) ^^^ t9 a) ^^^ (t13 a ^^^ t11 a)) = a ∧ tw (t11 a) ^^^ ((tw (t14 a) ^^^ t14 a) ^^^ (t9 a ^^^ t13 a)) = 0 ∧
    tw (t13 a) ^^^ ((tw (t11 a) ^^^ t11 a) ^^^ (t14 a ^^^ t9 a)) = 0 ∧ tw (t9 a) ^^^ ((tw (t13 a) ^^^ t13 a) ^^^ (t11 a ^^^ t14 a)) = 0 := by decide +kernel
theorem t9_xor {x y : Nat} (hx : x < 256) (hy : y < 256) : t9 (x ^^^ y) = t9 x ^^^ t9 y := by
  unfold t9
  rw [tw_xor hx hy, tw_xor (tw_lt hx) (tw_lt hy), tw_xor (tw_lt (tw_lt hx)) (tw_lt (tw_lt hy))]; ac_rfl
theorem t11_xor {x y : Nat} (hx : x < 256) (hy : y < 256) : t11 (x ^^^ y) = t11 x ^^^ t11 y := by
  unfold t11
  rw [tw_xor hx hy, tw_xor (tw_lt hx) (tw_lt hy), tw_xor (tw_lt (tw_lt hx)) (tw_lt (tw_lt hy))]; ac_rfl
theorem t13_xor {x y : Nat} (hx : x < 256) (hy : y < 256) : t13 (x ^^^ y) = t13 x ^^^ t13 y := by
  unfold t13
  rw [tw_xor hx hy, tw_xor (tw_lt hx) (tw_lt hy), tw_xor (tw_lt (tw_lt hx)) (tw_lt (tw_lt hy))]; ac_rfl
theorem t14_xor {x y : Nat} (hx : x < 256) (hy : y < 256) : t14 (x ^^^ y) = t14 x ^^^ t14 y := by
  unfold t14
  rw [tw_xor hx hy, tw_xor (tw_lt hx) (tw_lt hy), tw_xor (tw_lt (tw_lt hx)) (tw_lt (tw_lt hy))]; ac_rfl
theorem t_lt {a : Nat} (h : a < 256) : t9 a < 256 ∧ t11 a < 256 ∧ t13 a < 256 ∧ t14 a < 256 :=
  ⟨xor_lt (tw_lt (tw_lt (tw_lt h))) h, xor_lt (tw_lt (tw_lt (tw_lt h))) (xor_lt (tw_lt h) h), xor_lt (tw_lt (tw_lt (tw_lt h))) (xor_lt (tw_lt (tw_lt h)) h), xor_lt (tw_lt (tw_lt (tw_lt h))) (xor_lt (tw_lt (tw_lt h)) (tw_lt h))⟩
/-- a column's first row, forth: others are its turns -/
def c2 (a b c d : Nat) : Nat := tw a ^^^ ((tw b ^^^ b) ^^^ (c ^^^ d))
def c14 (a b c d : Nat) : Nat := t14 a ^^^ (t11 b ^^^ (t13 c ^^^ t9 d))
theorem c2_lt {a b c d : Nat} (ha : a < 256) (hb : b < 256) (hc : c < 256) (hd : d < 256) : c2 a b c d < 256 := xor_lt (tw_lt ha) (xor_lt (xor_lt (tw_lt hb) hb) (xor_lt hc hd))
theorem c14_lt {a b c d : Nat} (ha : a < 256) (hb : b < 256) (hc : c < 256) (hd : d < 256) : c14 a b c d < 256 := xor_lt (t_lt ha).2.2.2 (xor_lt (t_lt hb).2.1 (xor_lt (t_lt hc).2.2.1 (t_lt hd).1))
theorem c14_c2 {a b c d : Nat} (ha : a < 256) (hb : b < 256) (hc : c < 256) (hd : d < 256) : c14 (c2 a b c d) (c2 b c d a) (c2 c d a b) (c2 d a b c) = a := by
  have ta := tw_lt ha
  have tb := tw_lt hb
  have tc := tw_lt hc
  have td := tw_lt hd
  have xa := xor_lt ta ha
  have xb := xor_lt tb hb
  have xc := xor_lt tc hc
  have xd := xor_lt td hd
  have e14 : t14 (c2 a b c d) = t14 (tw a) ^^^ (t14 (tw b ^^^ b) ^^^ (t14 c ^^^ t14 d)) := by
    unfold c2; rw [t14_xor ta (xor_lt xb (xor_lt hc hd)), t14_xor xb (xor_lt hc hd), t14_xor hc hd]
  have e11 : t11 (c2 b c d a) = t11 (tw b) ^^^ (t11 (tw c ^^^ c) ^^^ (t11 d ^^^ t11 a)) := by
    unfold c2; rw [t11_xor tb (xor_lt xc (xor_lt hd ha)), t11_xor xc (xor_lt hd ha), t11_xor hd ha]
  have e13 : t13 (c2 c d a b) = t13 (tw c) ^^^ (t13 (tw d ^^^ d) ^^^ (t13 a ^^^ t13 b)) := by
    unfold c2; rw [t13_xor tc (xor_lt xd (xor_lt ha hb)), t13_xor xd (xor_lt ha hb), t13_xor ha hb]
  have e9 : t9 (c2 d a b c) = t9 (tw d) ^^^ (t9 (tw a ^^^ a) ^^^ (t9 b ^^^ t9 c)) := by
    unfold c2; rw [t9_xor td (xor_lt xa (xor_lt hb hc)), t9_xor xa (xor_lt hb hc), t9_xor hb hc]
  have A := (col_fin ⟨a, ha⟩).1
  have B := (col_fin ⟨b, hb⟩).2.1
  have C := (col_fin ⟨c, hc⟩).2.2.1
  have D := (col_fin ⟨d, hd⟩).2.2.2
  dsimp only at A B C D
  unfold c14
  rw [e14, e11, e13, e9]
  have h : ∀ p1 p2 p3 p4 q1 q2 q3 q4 r1 r2 r3 r4 s1 s2 s3 s4 : Nat, (p1 ^^^ (q1 ^^^ (r1 ^^^ s1))) ^^^ ((q2 ^^^ (r2 ^^^ (s2 ^^^ p2))) ^^^ ((r3 ^^^ (s3 ^^^ (p3 ^^^ q3))) ^^^ (s4 ^^^ (p4 ^^^ (q4 ^^^ r4))))) =
      (p1 ^^^ (p2 ^^^ (p3 ^^^ p4))) ^^^ ((q1 ^^^ (q2 ^^^ (q3 ^^^ q4))) ^^^ ((r1 ^^^ (r2 ^^^ (r3 ^^^ r4))) ^^^ (s1 ^^^ (s2 ^^^ (s3 ^^^ s4))))) := by
    intros; ac_rfl
  rw [h, A, B, C, D]
  simp
theorem c2_c14 {a b c d : Nat} (ha : a < 256) (hb : b < 256) (hc : c < 256) (hd : d < 256) : c2 (c14 a b c d) (c14 b c d a) (c14 c d a b) (c14 d a b c) = a := by
  obtain ⟨a9, a11, a13, a14⟩ := t_lt ha
  obtain ⟨b9, b11, b13, b14⟩ := t_lt hb
  obtain ⟨g9, g11, g13, g14⟩ := t_lt hc
  obtain ⟨d9, d11, d13, d14⟩ := t_lt hd
  have e1 : tw (c14 a b c d) = tw (t14 a) ^^^ (tw (t11 b) ^^^ (tw (t13 c) ^^^ tw (t9 d))) := by
    unfold c14; rw [tw_xor a14 (xor_lt b11 (xor_lt g13 d9)), tw_xor b11 (xor_lt g13 d9), tw_xor g13 d9]
  have e2 : tw (c14 b c d a) = tw (t14 b) ^^^ (tw (t11 c) ^^^ (tw (t13 d) ^^^ tw (t9 a))) := by
    unfold c14; rw [tw_xor b14 (xor_lt g11 (xor_lt d13 a9)), tw_xor g11 (xor_lt d13 a9), tw_xor d13 a9]
  have A := (cof_fin ⟨a, ha⟩).1
  have B := (cof_fin ⟨b, hb⟩).2.1
  have C := (cof_fin ⟨c, hc⟩).2.2.1
  have D := (cof_fin ⟨d, hd⟩).2.2.2
  dsimp only at A B C D
  have h : c2 (c14 a b c d) (c14 b c d a) (c14 c d a b) (c14 d a b c) =
      (tw (t14 a) ^^^ ((tw (t9 a) ^^^ t9 a) ^^^ (t13 a ^^^ t11 a))) ^^^ ((tw (t11 b) ^^^ ((tw (t14 b) ^^^ t14 b) ^^^ (t9 b ^^^ t13 b))) ^^^ ((tw (t13 c) ^^^ ((tw (t11 c) ^^^ t11 c) ^^^ (t14 c ^^^ t9 c))) ^^^ (tw (t9 d) ^^^ ((tw (t13 d) ^^^ t13 d) ^^^ (t11 d ^^^ t14 d))))) := by
    show tw (c14 a b c d) ^^^ ((tw (c14 b c d a) ^^^ c14 b c d a) ^^^ (c14 c d a b ^^^ c14 d a b c)) = _
    rw [e1, e2]
    unfold c14
    ac_rfl
  rw [h, A, B, C, D]
  simp
theorem m2_at (s : List Nat) (hb : By s) {i : Nat} (hi : i < 16) : (mixF m2 s).getD i 0 = c2 (s.getD (4 * (i / 4) + i % 4) 0) (s.getD (4 * (i / 4) + (i + 1) % 4) 0) (s.getD (4 * (i / 4) + (i + 2) % 4) 0) (s.getD (4 * (i / 4) + (i + 3) % 4) 0) := by
  unfold mixF
  rw [ml_get _ hi]
  generalize hq : i / 4 = q
  have hr : i % 4 = 0 ∨ i % 4 = 1 ∨ i % 4 = 2 ∨ i % 4 = 3 := by omega
  have T := fun j => times_small ⟨s.getD j 0, hb.get j⟩
  unfold c2
  simp only [mixA, hq]
  rcases hr with h | h | h | h
  · rw [show (i + 1) % 4 = 1 by omega, show (i + 2) % 4 = 2 by omega, show (i + 3) % 4 = 3 by omega, h]
    simp only [Nat.zero_xor]
    rw [show m2.getD ((0 + 4 - 0) % 4) 0 = 2 from rfl, show m2.getD ((1 + 4 - 0) % 4) 0 = 3 from rfl, show m2.getD ((2 + 4 - 0) % 4) 0 = 1 from rfl, show m2.getD ((3 + 4 - 0) % 4) 0 = 1 from rfl, (T _).1, (T _).2.2, (T _).2.1, (T _).2.1]
    ac_rfl
  · rw [show (i + 1) % 4 = 2 by omega, show (i + 2) % 4 = 3 by omega, show (i + 3) % 4 = 0 by omega, h]
    simp only [Nat.zero_xor]
    rw [show m2.getD ((0 + 4 - 1) % 4) 0 = 1 from rfl, show m2.getD ((1 + 4 - 1) % 4) 0 = 2 from rfl, show m2.getD ((2 + 4 - 1) % 4) 0 = 3 from rfl, show m2.getD ((3 + 4 - 1) % 4) 0 = 1 from rfl, (T _).1, (T _).2.2, (T _).2.1, (T _).2.1]
    ac_rfl
  · rw [show (i + 1) % 4 = 3 by omega, show (i + 2) % 4 = 0 by omega, show (i + 3) % 4 = 1 by omega, h]
    simp only [Nat.zero_xor]
    rw [show m2.getD ((0 + 4 - 2) % 4) 0 = 1 from rfl, show m2.getD ((1 + 4 - 2) % 4) 0 = 1 from rfl, show m2.getD ((2 + 4 - 2) % 4) 0 = 2 from rfl, show m2.getD ((3 + 4 - 2) % 4) 0 = 3 from rfl, (T _).1, (T _).2.2, (T _).2.1, (T _).2.1]
    ac_rfl
  · rw [show (i + 1) % 4 = 0 by omega, show (i + 2) % 4 = 1 by omega, show (i + 3) % 4 = 2 by omega, h]
    simp only [Nat.zero_xor]
    rw [show m2.getD ((0 + 4 - 3) % 4) 0 = 3 from rfl, show m2.getD ((1 + 4 - 3) % 4) 0 = 1 from rfl, show m2.getD ((2 + 4 - 3) % 4) 0 = 1 from rfl, show m2.getD ((3 + 4 - 3) % 4) 0 = 2 from rfl, (T _).1, (T _).2.2, (T _).2.1, (T _).2.1]
    ac_rfl
theorem m14_at (s : List Nat) (hb : By s) {i : Nat} (hi : i < 16) : (mixF m14 s).getD i 0 = c14 (s.getD (4 * (i / 4) + i % 4) 0) (s.getD (4 * (i / 4) + (i + 1) % 4) 0) (s.getD (4 * (i / 4) + (i + 2) % 4) 0) (s.getD (4 * (i / 4) + (i + 3) % 4) 0) := by
  unfold mixF
  rw [ml_get _ hi]
  generalize hq : i / 4 = q
  have hr : i % 4 = 0 ∨ i % 4 = 1 ∨ i % 4 = 2 ∨ i % 4 = 3 := by omega
  have T := fun j => times_great ⟨s.getD j 0, hb.get j⟩
  unfold c14
  simp only [mixA, hq]
  rcases hr with h | h | h | h
  · rw [show (i + 1) % 4 = 1 by omega, show (i + 2) % 4 = 2 by omega, show (i + 3) % 4 = 3 by omega, h]
    simp only [Nat.zero_xor]
    rw [show m14.getD ((0 + 4 - 0) % 4) 0 = 14 from rfl, show m14.getD ((1 + 4 - 0) % 4) 0 = 11 from rfl, show m14.getD ((2 + 4 - 0) % 4) 0 = 13 from rfl, show m14.getD ((3 + 4 - 0) % 4) 0 = 9 from rfl, (T _).1, (T _).2.1, (T _).2.2.1, (T _).2.2.2]
    ac_rfl
  · rw [show (i + 1) % 4 = 2 by omega, show (i + 2) % 4 = 3 by omega, show (i + 3) % 4 = 0 by omega, h]
    simp only [Nat.zero_xor]
    rw [show m14.getD ((0 + 4 - 1) % 4) 0 = 9 from rfl, show m14.getD ((1 + 4 - 1) % 4) 0 = 14 from rfl, show m14.getD ((2 + 4 - 1) % 4) 0 = 11 from rfl, show m14.getD ((3 + 4 - 1) % 4) 0 = 13 from rfl, (T _).1, (T _).2.1, (T _).2.2.1, (T _).2.2.2]
    ac_rfl
  · rw [show (i + 1) % 4 = 3 by omega, show (i + 2) % 4 = 0 by omega, show (i + 3) % 4 = 1 by omega, h]
    simp only [Nat.zero_xor]
    rw [show m14.getD ((0 + 4 - 2) % 4) 0 = 13 from rfl, show m14.getD ((1 + 4 - 2) % 4) 0 = 9 from rfl, show m14.getD ((2 + 4 - 2) % 4) 0 = 14 from rfl, show m14.getD ((3 + 4 - 2) % 4) 0 = 11 from rfl, (T _).1, (T _).2.1, (T _).2.2.1, (T _).2.2.2]
    ac_rfl
  · rw [show (i + 1) % 4 = 0 by omega, show (i + 2) % 4 = 1 by omega, show (i + 3) % 4 = 2 by omega, h]
    simp only [Nat.zero_xor]
    rw [show m14.getD ((0 + 4 - 3) % 4) 0 = 11 from rfl, show m14.getD ((1 + 4 - 3) % 4) 0 = 13 from rfl, show m14.getD ((2 + 4 - 3) % 4) 0 = 9 from rfl, show m14.getD ((3 + 4 - 3) % 4) 0 = 14 from rfl, (T _).1, (T _).2.1, (T _).2.2.1, (T _).2.2.2]
    ac_rfl
theorem m2_by {s : List Nat} (hb : By s) : By (mixF m2 s) := By.ml fun i hi => by
  have h := m2_at s hb hi
  unfold mixF at h
  rw [ml_get _ hi] at h
  rw [h]
  exact c2_lt (hb.get _) (hb.get _) (hb.get _) (hb.get _)
theorem m14_by {s : List Nat} (hb : By s) : By (mixF m14 s) := By.ml fun i hi => by
  have h := m14_at s hb hi
  unfold mixF at h
  rw [ml_get _ hi] at h
  rw [h]
  exact c14_lt (hb.get _) (hb.get _) (hb.get _) (hb.get _)
/-- the places of a column, turned -/
theorem turn (q a k : Nat) : (4 * q + a % 4) / 4 = q ∧ (4 * q + a % 4 + k) % 4 = (a + k) % 4 := by omega
theorem mix_back {s : List Nat} (hs : s.length = 16) (hb : By s) : mixF m14 (mixF m2 s) = s := by
  have h : mixF m14 (mixF m2 s) = ml 16 fun i => s.getD i 0 := by
    rw [← ml_eta (show (mixF m14 (mixF m2 s)).length = 16 from ml_len ..)]
    refine ml_congr fun i hi => ?_
    have hq : i / 4 < 4 := by omega
    have e := m14_at (mixF m2 s) (m2_by hb) hi
    have a0 := m2_at s hb (i := 4 * (i / 4) + i % 4) (by omega)
    have a1 := m2_at s hb (i := 4 * (i / 4) + (i + 1) % 4) (by omega)
    have a2 := m2_at s hb (i := 4 * (i / 4) + (i + 2) % 4) (by omega)
    have a3 := m2_at s hb (i := 4 * (i / 4) + (i + 3) % 4) (by omega)
    have d : ∀ a, (4 * (i / 4) + a % 4) / 4 = i / 4 := fun a => by omega
    have m0 : ∀ a, (4 * (i / 4) + a % 4) % 4 = a % 4 := fun a => by omega
    have m1 : ∀ a, (4 * (i / 4) + a % 4 + 1) % 4 = (a + 1) % 4 := fun a => by omega
    have m2' : ∀ a, (4 * (i / 4) + a % 4 + 2) % 4 = (a + 2) % 4 := fun a => by omega
    have m3 : ∀ a, (4 * (i / 4) + a % 4 + 3) % 4 = (a + 3) % 4 := fun a => by omega
    rw [d, m0, m1, m2', m3] at a0 a1 a2 a3
    rw [show (i + 1 + 1) % 4 = (i + 2) % 4 by omega, show (i + 1 + 2) % 4 = (i + 3) % 4 by omega, show (i + 1 + 3) % 4 = i % 4 by omega] at a1
    rw [show (i + 2 + 1) % 4 = (i + 3) % 4 by omega, show (i + 2 + 2) % 4 = i % 4 by omega, show (i + 2 + 3) % 4 = (i + 1) % 4 by omega] at a2
    rw [show (i + 3 + 1) % 4 = i % 4 by omega, show (i + 3 + 2) % 4 = (i + 1) % 4 by omega, show (i + 3 + 3) % 4 = (i + 2) % 4 by omega] at a3
    rw [e, a0, a1, a2, a3, c14_c2 (hb.get _) (hb.get _) (hb.get _) (hb.get _)]
    congr 1
    omega
  rw [h, ml_eta hs]
theorem mix_forth {s : List Nat} (hs : s.length = 16) (hb : By s) : mixF m2 (mixF m14 s) = s := by
  have h : mixF m2 (mixF m14 s) = ml 16 fun i => s.getD i 0 := by
    rw [← ml_eta (show (mixF m2 (mixF m14 s)).length = 16 from ml_len ..)]
    refine ml_congr fun i hi => ?_
    have hq : i / 4 < 4 := by omega
    have e := m2_at (mixF m14 s) (m14_by hb) hi
    have a0 := m14_at s hb (i := 4 * (i / 4) + i % 4) (by omega)
    have a1 := m14_at s hb (i := 4 * (i / 4) + (i + 1) % 4) (by omega)
    have a2 := m14_at s hb (i := 4 * (i / 4) + (i + 2) % 4) (by omega)
    have a3 := m14_at s hb (i := 4 * (i / 4) + (i + 3) % 4) (by omega)
    have d : ∀ a, (4 * (i / 4) + a % 4) / 4 = i / 4 := fun a => by omega
    have m0 : ∀ a, (4 * (i / 4) + a % 4) % 4 = a % 4 := fun a => by omega
    have m1 : ∀ a, (4 * (i / 4) + a % 4 + 1) % 4 = (a + 1) % 4 := fun a => by omega
    have m2' : ∀ a, (4 * (i / 4) + a % 4 + 2) % 4 = (a + 2) % 4 := fun a => by omega
    have m3 : ∀ a, (4 * (i / 4) + a % 4 + 3) % 4 = (a + 3) % 4 := fun a => by omega
    rw [d, m0, m1, m2', m3] at a0 a1 a2 a3
    rw [show (i + 1 + 1) % 4 = (i + 2) % 4 by omega, show (i + 1 + 2) % 4 = (i + 3) % 4 by omega, show (i + 1 + 3) % 4 = i % 4 by omega] at a1
    rw [show (i + 2 + 1) % 4 = (i + 3) % 4 by omega, show (i + 2 + 2) % 4 = i % 4 by omega, show (i + 2 + 3) % 4 = (i + 1) % 4 by omega] at a2
    rw [show (i + 3 + 1) % 4 = i % 4 by omega, show (i + 3 + 2) % 4 = (i + 1) % 4 by omega, show (i + 3 + 3) % 4 = (i + 2) % 4 by omega] at a3
    rw [e, a0, a1, a2, a3, c2_c14 (hb.get _) (hb.get _) (hb.get _) (hb.get _)]
    congr 1
    omega
  rw [h, ml_eta hs]
/-! ### rounds -/
/-- the state behind round n, not the last -/
def st (T W b : List Nat) : Nat → List Nat
  | 0 => keyF b W
  | n + 1 => keyF (mixF m2 (shF T 1 (st T W b n))) (W.drop (16 * (n + 1)))
/-- the block after r rounds, r ≥ 1 -/
def block (T W : List Nat) (r : Nat) (b : List Nat) : List Nat := keyF (shF T 1 (st T W b (r - 1))) (W.drop (16 * r))
/-- back through rounds n, n - 1, .. -/
def dec (K W : List Nat) : Nat → List Nat → List Nat
  | 0, s => keyF s W
  | n + 1, s => dec K W n (shF K 3 (mixF m14 (keyF s (W.drop (16 * (n + 1))))))
def back (K W : List Nat) (r : Nat) (b : List Nat) : List Nat := dec K W (r - 1) (shF K 3 (keyF b (W.drop (16 * r))))
theorem key_len (s W : List Nat) : (keyF s W).length = 16 := ml_len ..
theorem key_by {s W : List Nat} (hs : By s) (hW : By W) : By (keyF s W) := By.ml fun _ _ => xor_lt (hs.get _) (hW.get _)
theorem sh_by {s : List Nat} (hs : By s) (b : Nat) : By (shF sbT b s) := By.ml fun _ _ => sb_lt (hs.get _)
theorem bsh_by {s : List Nat} (hs : By s) (b : Nat) : By (shF bkT b s) := By.ml fun _ _ => bk_lt (hs.get _)
theorem st_len (T W b : List Nat) : ∀ n, (st T W b n).length = 16
  | 0 => key_len ..
  | _ + 1 => key_len ..
theorem st_by {W b : List Nat} (hW : By W) (hb : By b) : ∀ n, By (st sbT W b n)
  | 0 => key_by hb hW
  | n + 1 => key_by (m2_by (sh_by (st_by hW hb n) 1)) (hW.drop _)
theorem block_len (T W : List Nat) (r : Nat) (b : List Nat) : (block T W r b).length = 16 := key_len ..
theorem block_by {W b : List Nat} (hW : By W) (hb : By b) (r : Nat) : By (block sbT W r b) := key_by (sh_by (st_by hW hb _) 1) (hW.drop _)
theorem dec_st {W b : List Nat} (hW : By W) (hl : b.length = 16) (hb : By b) : ∀ n, dec bkT W n (st sbT W b n) = b
  | 0 => keyF_key W hl
  | n + 1 => by
    show dec bkT W n (shF bkT 3 (mixF m14 (keyF (keyF _ _) _))) = b
    have hs := sh_by (st_by hW hb n) 1
    rw [keyF_key _ (show (mixF m2 (shF sbT 1 (st sbT W b n))).length = 16 from ml_len ..), mix_back (show (shF sbT 1 (st sbT W b n)).length = 16 from ml_len ..) hs, sh_back (st_len ..) (st_by hW hb n)]
    exact dec_st hW hl hb n
theorem back_block {W b : List Nat} (hW : By W) (hl : b.length = 16) (hb : By b) (r : Nat) : back bkT W r (block sbT W r b) = b := by
  unfold back block
  rw [keyF_key _ (show (shF sbT 1 (st sbT W b (r - 1))).length = 16 from ml_len ..), sh_back (st_len ..) (st_by hW hb _)]
  exact dec_st hW hl hb _
theorem dec_len (K W : List Nat) : ∀ n s, (dec K W n s).length = 16
  | 0, _ => key_len ..
  | n + 1, _ => dec_len K W n _
theorem dec_by {W : List Nat} (hW : By W) : ∀ n s, By s → By (dec bkT W n s)
  | 0, _, hs => key_by hs hW
  | n + 1, _, hs => dec_by hW n _ (bsh_by (m14_by (key_by hs (hW.drop _))) 3)
theorem back_by {W b : List Nat} (hW : By W) (hb : By b) (r : Nat) : By (back bkT W r b) := dec_by hW _ _ (bsh_by (key_by hb (hW.drop _)) 3)
/-- what the program's rounds go through on the way back, they meet again on the way forth -/
theorem st_dec {W : List Nat} (hW : By W) : ∀ (n : Nat) (s : List Nat), s.length = 16 → By s → st sbT W (dec bkT W n s) n = s
  | 0, s, hl, hs => keyF_key W hl
  | n + 1, s, hl, hs => by
    have hk := key_by hs (hW.drop (16 * (n + 1)))
    have hm := m14_by hk
    have ih := st_dec hW n (shF bkT 3 (mixF m14 (keyF s (W.drop (16 * (n + 1)))))) (ml_len ..) (bsh_by hm 3)
    show keyF (mixF m2 (shF sbT 1 (st sbT W (dec bkT W n _) n))) _ = s
    rw [ih, sh_forth (show (mixF m14 (keyF s (W.drop (16 * (n + 1))))).length = 16 from ml_len ..) hm, mix_forth (key_len ..) hk]
    exact keyF_key _ hl
theorem block_back {W b : List Nat} (hW : By W) (hl : b.length = 16) (hb : By b) (r : Nat) : block sbT W r (back bkT W r b) = b := by
  unfold back block
  have hk := key_by hb (hW.drop (16 * r))
  rw [st_dec hW (r - 1) (shF bkT 3 (keyF b (W.drop (16 * r)))) (ml_len ..) (bsh_by hk 3), sh_forth (key_len ..) hk]
  exact keyF_key _ hl

/-! ### the document's block -/
def rsh (s : List Nat) : List Nat := ml 16 fun i => subN (s.getD ((i + 4 * (i % 4)) % 16) 0)
def rcol (t : List Nat) (c : Nat) : List Nat :=
  [mul 2 (t.getD (4 * c) 0) ^^^ mul 3 (t.getD (4 * c + 1) 0) ^^^ t.getD (4 * c + 2) 0 ^^^ t.getD (4 * c + 3) 0,
   t.getD (4 * c) 0 ^^^ mul 2 (t.getD (4 * c + 1) 0) ^^^ mul 3 (t.getD (4 * c + 2) 0) ^^^ t.getD (4 * c + 3) 0,
   t.getD (4 * c) 0 ^^^ t.getD (4 * c + 1) 0 ^^^ mul 2 (t.getD (4 * c + 2) 0) ^^^ mul 3 (t.getD (4 * c + 3) 0),
   mul 3 (t.getD (4 * c) 0) ^^^ t.getD (4 * c + 1) 0 ^^^ t.getD (4 * c + 2) 0 ^^^ mul 2 (t.getD (4 * c + 3) 0)]
def rmix (t : List Nat) : List Nat := ml 16 fun i => (rcol t (i / 4)).getD (i % 4) 0
theorem rsh_eq {s : List Nat} (hs : By s) : rsh s = shF sbT 1 s := ml_congr fun i hi => by
  have e : (i + 4 * (i % 4)) % 16 = shI 1 i := by unfold shI; omega
  rw [e, sb_at (hs.get _)]
theorem rmix_eq {t : List Nat} (ht : By t) : rmix t = mixF m2 t := by
  rw [← ml_eta (show (mixF m2 t).length = 16 from ml_len ..)]
  refine ml_congr fun i hi => ?_
  rw [m2_at t ht hi]
  have T : ∀ j, mul 2 (t.getD j 0) = tw (t.getD j 0) ∧ mul 3 (t.getD j 0) = tw (t.getD j 0) ^^^ t.getD j 0 := fun j => ⟨(mul_small ⟨t.getD j 0, ht.get j⟩).1, (mul_small ⟨t.getD j 0, ht.get j⟩).2.1⟩
  unfold c2 rcol
  have hr : i % 4 = 0 ∨ i % 4 = 1 ∨ i % 4 = 2 ∨ i % 4 = 3 := by omega
  rcases hr with h | h | h | h
  · rw [show (i + 1) % 4 = 1 by omega, show (i + 2) % 4 = 2 by omega, show (i + 3) % 4 = 3 by omega, h]
    simp only [List.getD_cons_zero, Nat.add_zero]
    rw [(T _).1, (T _).2]; ac_rfl
  · rw [show (i + 1) % 4 = 2 by omega, show (i + 2) % 4 = 3 by omega, show (i + 3) % 4 = 0 by omega, h]
    simp only [List.getD_cons_zero, List.getD_cons_succ, Nat.add_zero]
    rw [(T _).1, (T _).2]; ac_rfl
  · rw [show (i + 1) % 4 = 3 by omega, show (i + 2) % 4 = 0 by omega, show (i + 3) % 4 = 1 by omega, h]
    simp only [List.getD_cons_zero, List.getD_cons_succ, Nat.add_zero]
    rw [(T _).1, (T _).2]; ac_rfl
  · rw [show (i + 1) % 4 = 0 by omega, show (i + 2) % 4 = 1 by omega, show (i + 3) % 4 = 2 by omega, h]
    simp only [List.getD_cons_zero, List.getD_cons_succ, Nat.add_zero]
    rw [(T _).1, (T _).2]; ac_rfl
/-- the document's state behind round n of r -/
def rst (W b : List Nat) (r : Nat) : Nat → List Nat
  | 0 => keyF b W
  | n + 1 => keyF (if n + 1 < r then rmix (rsh (rst W b r n)) else rsh (rst W b r n)) (W.drop (16 * (n + 1)))
theorem rst_eq {W b : List Nat} (hW : By W) (hb : By b) (r : Nat) : ∀ n, n < r → rst W b r n = st sbT W b n
  | 0, _ => rfl
  | n + 1, h => by
    have ih := rst_eq hW hb r n (by omega)
    show keyF (if n + 1 < r then _ else _) _ = _
    rw [if_pos h, ih, rsh_eq (st_by hW hb n), rmix_eq (sh_by (st_by hW hb n) 1)]
    rfl
theorem rst_block {W b : List Nat} (hW : By W) (hb : By b) {r : Nat} (h : 0 < r) : rst W b r r = block sbT W r b := by
  obtain ⟨n, rfl⟩ : ∃ n, r = n + 1 := ⟨r - 1, by omega⟩
  show keyF (if n + 1 < n + 1 then _ else _) _ = _
  rw [if_neg (Nat.lt_irrefl _), rst_eq hW hb _ n (by omega), rsh_eq (st_by hW hb n)]
  rfl

/-! ### the key's words -/
/-- one word more: word number i of a key of n words; 'f' is Sub -/
def kstep (f : Nat → Nat) (n i : Nat) (x : List Nat × Nat) : List Nat × Nat :=
  let t := fun k => x.1.getD (4 * i - 4 + k) 0
  let u := fun k => if i % n = 0 then (if k = 0 then f (t 1) ^^^ x.2 else f (t ((k + 1) % 4))) else if n = 8 ∧ i % 8 = 4 then f (t k) else t k
  (x.1 ++ ml 4 fun k => u k ^^^ x.1.getD (4 * i - 4 * n + k) 0, if i % n = 0 then tw x.2 else x.2)
/-- m words more than the key has -/
def kexp (f : Nat → Nat) (n : Nat) (key : List Nat) : Nat → List Nat × Nat
  | 0 => (key, 1)
  | m + 1 => kstep f n (n + m) (kexp f n key m)
theorem kexp_by {f : Nat → Nat} (hf : ∀ x, x < 256 → f x < 256) (n : Nat) {key : List Nat} (hk : By key) : ∀ m, By (kexp f n key m).1 ∧ (kexp f n key m).2 < 256
  | 0 => ⟨hk, by show 1 < 256; omega⟩
  | m + 1 => by
    obtain ⟨h1, h2⟩ := kexp_by hf n hk m
    refine ⟨?_, ?_⟩
    · intro x hx
      rcases List.mem_append.1 hx with h | h
      · exact h1 x h
      · refine (By.ml fun k hk => ?_ : By (ml 4 _)) x h
        refine xor_lt ?_ (h1.get _)
        dsimp only
        split
        · split
          · exact xor_lt (hf _ (h1.get _)) h2
          · exact hf _ (h1.get _)
        · split
          · exact hf _ (h1.get _)
          · exact h1.get _
    · show (if _ then _ else _) < 256
      split
      · exact tw_lt h2
      · exact h2
theorem kexp_len (f : Nat → Nat) (n : Nat) (key : List Nat) : ∀ m, (kexp f n key m).1.length = key.length + 4 * m
  | 0 => rfl
  | m + 1 => by
    show (_ ++ ml 4 _).length = _
    rw [List.length_append, ml_len, kexp_len f n key m]; omega
theorem kexp_congr {f g : Nat → Nat} (h : ∀ x, x < 256 → f x = g x) (hf : ∀ x, x < 256 → f x < 256) (n : Nat) {key : List Nat} (hk : By key) : ∀ m, kexp f n key m = kexp g n key m
  | 0 => rfl
  | m + 1 => by
    have ih := kexp_congr h hf n hk m
    have h1 := (kexp_by hf n hk m).1
    show kstep f n (n + m) (kexp f n key m) = kstep g n (n + m) (kexp g n key m)
    rw [← ih]
    have e : ∀ j, f ((kexp f n key m).1.getD j 0) = g ((kexp f n key m).1.getD j 0) := fun j => h _ (h1.get j)
    unfold kstep
    simp only [e]
end Go.Proofs.YteleedcpepifjaaDoor.AesP
