/-
Terms as texts, without the program: a text is read in two ways (word by word; cut at its commas), and both find the same term.
-/
namespace Go.Proofs.YtcbkbjpdfanjpaaGreatDoor.Tm
abbrev S := List UInt8
def low (c : UInt8) : Bool := decide (97 ≤ c.toNat ∧ c.toNat ≤ 122) || decide (48 ≤ c.toNat ∧ c.toNat ≤ 57)
def kHash : S := [104, 97, 115, 104]
def kPoint : S := [112, 111, 105, 110, 116]
def kKey : S := [107, 101, 121]
def kPair : S := [112, 97, 105, 114]
def kShare : S := [115, 104, 97, 114, 101]
def kSign : S := [115, 105, 103, 110]
def kSeal : S := [115, 101, 97, 108]
def kAtom : S := [97, 116, 111, 109]
def kw1 : List S := [kHash, kPoint, kKey]
def kw2 : List S := [kPair, kShare, kSign, kSeal]
/-- how many parts a word has -/
def cnt (k : S) : Nat := if k ∈ kw1 then 1 else if k ∈ kw2 then 2 else 0
inductive T where
  | atom (w : S)
  | one (k : S) (a : T)
  | two (k : S) (a b : T)
def txt : T → S
  | .atom w => w
  | .one k a => k ++ 40 :: (txt a ++ [41])
  | .two k a b => k ++ 40 :: (txt a ++ 44 :: (txt b ++ [41]))
def wf : T → Prop
  | .atom w => (∀ c ∈ w, low c = true) ∧ 1 ≤ w.length ∧ w.length ≤ 16
  | .one k a => k ∈ kw1 ∧ wf a
  | .two k a b => k ∈ kw2 ∧ wf a ∧ wf b
theorem low_40 : low 40 = false := by decide
theorem low_41 : low 41 = false := by decide
theorem low_44 : low 44 = false := by decide
theorem kw_low : ∀ k, k ∈ kw1 ∨ k ∈ kw2 → ∀ c ∈ k, low c = true := by
  intro k hk
  rcases hk with hk | hk <;> simp only [kw1, kw2, List.mem_cons, List.not_mem_nil, or_false] at hk
  · rcases hk with rfl | rfl | rfl <;> decide
  · rcases hk with rfl | rfl | rfl | rfl <;> decide
theorem kw_disj : ∀ k, k ∈ kw2 → ¬ k ∈ kw1 := by
  intro k hk
  simp only [kw2, List.mem_cons, List.not_mem_nil, or_false] at hk
  rcases hk with rfl | rfl | rfl | rfl <;> decide
theorem cnt1 {k : S} (h : k ∈ kw1) : cnt k = 1 := if_pos h
theorem cnt2 {k : S} (h : k ∈ kw2) : cnt k = 2 := by unfold cnt; rw [if_neg (kw_disj k h), if_pos h]
theorem of_cnt1 {k : S} (h : cnt k = 1) : k ∈ kw1 := by
  unfold cnt at h
  split at h
  · assumption
  · split at h <;> simp at h
theorem of_cnt2 {k : S} (h : cnt k = 2) : k ∈ kw2 := by
  unfold cnt at h
  split at h
  · simp at h
  · split at h
    · assumption
    · simp at h
theorem cnt_le (k : S) : cnt k = 0 ∨ cnt k = 1 ∨ cnt k = 2 := by
  unfold cnt
  split
  · exact .inr (.inl rfl)
  · split
    · exact .inr (.inr rfl)
    · exact .inl rfl
/-! ### word by word -/
def rd : Nat → S → Option (T × S)
  | 0, _ => none
  | f + 1, s =>
    match s.dropWhile low with
    | 40 :: r =>
      if cnt (s.takeWhile low) = 1 then
        match rd f r with
        | some (a, 41 :: r2) => some (.one (s.takeWhile low) a, r2)
        | _ => none
      else if cnt (s.takeWhile low) = 2 then
        match rd f r with
        | some (a, 44 :: r2) =>
          match rd f r2 with
          | some (b, 41 :: r3) => some (.two (s.takeWhile low) a b, r3)
          | _ => none
        | _ => none
      else none
    | r => if 1 ≤ (s.takeWhile low).length ∧ (s.takeWhile low).length ≤ 16 then some (.atom (s.takeWhile low), r) else none
theorem take_low (s : S) : ∀ c ∈ s.takeWhile low, low c = true := by
  induction s with
  | nil => intro c hc; cases hc
  | cons x r ih =>
    intro c hc
    by_cases hx : low x = true
    · rw [List.takeWhile_cons_of_pos hx] at hc
      rcases List.mem_cons.1 hc with rfl | h
      · exact hx
      · exact ih c h
    · rw [List.takeWhile_cons_of_neg hx] at hc
      cases hc
theorem take_app {w r : S} (hw : ∀ c ∈ w, low c = true) (hr : ∀ c, r.head? = some c → low c = false) : (w ++ r).takeWhile low = w ∧ (w ++ r).dropWhile low = r := by
  induction w with
  | nil =>
    cases r with
    | nil => exact ⟨rfl, rfl⟩
    | cons x t =>
      have hx : ¬ low x = true := by rw [hr x rfl]; decide
      exact ⟨List.takeWhile_cons_of_neg hx, List.dropWhile_cons_of_neg hx⟩
  | cons x t ih =>
    have hx : low x = true := hw x (List.mem_cons_self ..)
    have h := ih fun c hc => hw c (List.mem_cons_of_mem _ hc)
    exact ⟨by rw [List.cons_append, List.takeWhile_cons_of_pos hx, h.1], by rw [List.cons_append, List.dropWhile_cons_of_pos hx, h.2]⟩
theorem rd_sound : ∀ (f : Nat) (s : S) (t : T) (r : S), rd f s = some (t, r) → s = txt t ++ r ∧ wf t
  | 0, _, _, _, h => by cases h
  | f + 1, s, t, r, h => by
    have hs := List.takeWhile_append_dropWhile (p := low) (l := s)
    have hw := take_low s
    unfold rd at h
    generalize s.takeWhile low = w at *
    generalize s.dropWhile low = q at *
    subst hs
    split at h
    · rename_i r' 
      split at h
      · rename_i hc
        split at h
        · rename_i a r2 ha
          obtain ⟨e, wa⟩ := rd_sound f _ _ _ ha
          simp only [Option.some.injEq, Prod.mk.injEq] at h
          obtain ⟨rfl, rfl⟩ := h
          exact ⟨by rw [e]; simp [txt], of_cnt1 hc, wa⟩
        · cases h
      · split at h
        · rename_i hc
          split at h
          · rename_i a r2 ha
            obtain ⟨e, wa⟩ := rd_sound f _ _ _ ha
            split at h
            · rename_i b r3 hb
              obtain ⟨e2, wb⟩ := rd_sound f _ _ _ hb
              simp only [Option.some.injEq, Prod.mk.injEq] at h
              obtain ⟨rfl, rfl⟩ := h
              exact ⟨by rw [e, e2]; simp [txt], of_cnt2 hc, wa, wb⟩
            · cases h
          · cases h
        · cases h
    · split at h
      · rename_i hl
        simp only [Option.some.injEq, Prod.mk.injEq] at h
        obtain ⟨rfl, rfl⟩ := h
        exact ⟨rfl, hw, hl.1, hl.2⟩
      · cases h
theorem head_app {x : UInt8} {l r : S} : (x :: l ++ r).head? = some x := rfl
theorem txt_len (t : T) : ∀ _ : wf t, 1 ≤ (txt t).length := by
  intro h
  cases t with
  | atom w => exact h.2.1
  | one k a => simp [txt]; omega
  | two k a b => simp [txt]; omega
/-- what may follow a text -/
def stop (r : S) : Prop := ∀ c, r.head? = some c → low c = false ∧ c ≠ 40
theorem stop41 (r : S) : stop (41 :: r) := fun c h => by obtain rfl := Option.some.inj h; exact ⟨low_41, by decide⟩
theorem stop44 (r : S) : stop (44 :: r) := fun c h => by obtain rfl := Option.some.inj h; exact ⟨low_44, by decide⟩
theorem stop_nil : stop [] := fun c h => by cases h
theorem rd_complete : ∀ (t : T) (f : Nat) (r : S), wf t → stop r → (txt t).length ≤ f → rd f (txt t ++ r) = some (t, r)
  | .atom w, 0, r, h, _, hf => by have h1 := h.2.1; have h2 : w.length ≤ 0 := hf; omega
  | .one k a, 0, r, _, _, hf => by simp [txt] at hf
  | .two k a b, 0, r, _, _, hf => by simp [txt] at hf
  | .atom w, f + 1, r, h, hr, hf => by
    obtain ⟨e1, e2⟩ := take_app h.1 (fun c hc => (hr c hc).1)
    show rd (f + 1) (w ++ r) = _
    unfold rd
    rw [e1, e2]
    split
    · rename_i q
      exact absurd rfl ((hr 40 rfl).2)
    · rw [if_pos h.2]
  | .one k a, f + 1, r, h, hr, hf => by
    have e : txt (.one k a) ++ r = k ++ 40 :: (txt a ++ 41 :: r) := by simp [txt]
    obtain ⟨e1, e2⟩ := take_app (w := k) (r := 40 :: (txt a ++ 41 :: r)) (kw_low k (.inl h.1)) (fun c hc => by obtain rfl := Option.some.inj hc; exact low_40)
    have ih := rd_complete a f (41 :: r) h.2 (stop41 r) (by simp [txt] at hf; omega)
    rw [e]
    unfold rd
    rw [e1, e2]
    simp only [cnt1 h.1, if_true, ih]
  | .two k a b, f + 1, r, h, hr, hf => by
    have e : txt (.two k a b) ++ r = k ++ 40 :: (txt a ++ 44 :: (txt b ++ 41 :: r)) := by simp [txt]
    obtain ⟨e1, e2⟩ := take_app (w := k) (r := 40 :: (txt a ++ 44 :: (txt b ++ 41 :: r))) (kw_low k (.inr h.1)) (fun c hc => by obtain rfl := Option.some.inj hc; exact low_40)
    have iha := rd_complete a f (44 :: (txt b ++ 41 :: r)) h.2.1 (stop44 _) (by simp [txt] at hf; omega)
    have ihb := rd_complete b f (41 :: r) h.2.2 (stop41 r) (by simp [txt] at hf; omega)
    rw [e]
    unfold rd
    rw [e1, e2]
    simp only [cnt2 h.1, iha, ihb]
    rfl
/-! ### cut at its commas -/
/-- the parts, by the depth of brackets -/
def sp : Int → S → S → List S
  | _, cur, [] => [cur]
  | d, cur, c :: r => if c = 40 then sp (d + 1) (cur ++ [c]) r else if c = 41 then sp (d - 1) (cur ++ [c]) r else if c = 44 ∧ d = 0 then cur :: sp d [] r else sp d (cur ++ [c]) r
def join : List S → S
  | [] => []
  | [a] => a
  | a :: b :: r => a ++ 44 :: join (b :: r)
theorem sp_ne (d : Int) (cur r : S) : sp d cur r ≠ [] := by
  induction r generalizing d cur with
  | nil => simp [sp]
  | cons c r ih =>
    unfold sp
    split
    · exact ih _ _
    · split
      · exact ih _ _
      · split
        · simp
        · exact ih _ _
theorem join_cons (a : S) (l : List S) (h : l ≠ []) : join (a :: l) = a ++ 44 :: join l := by
  cases l with
  | nil => exact absurd rfl h
  | cons b r => rfl
theorem sp_join (d : Int) (cur r : S) : join (sp d cur r) = cur ++ r := by
  induction r generalizing d cur with
  | nil => simp [sp, join]
  | cons c r ih =>
    unfold sp
    split
    · rw [ih]; simp
    · split
      · rw [ih]; simp
      · split
        · rename_i h
          rw [join_cons _ _ (sp_ne _ _ _), ih, h.1]; simp
        · rw [ih]; simp
theorem sp_low {w : S} (hw : ∀ c ∈ w, low c = true) (d : Int) (cur r : S) : sp d cur (w ++ r) = sp d (cur ++ w) r := by
  induction w generalizing cur with
  | nil => simp
  | cons c t ih =>
    have hc := hw c (List.mem_cons_self ..)
    have n1 : ¬ c = 40 := fun e => by rw [e, low_40] at hc; cases hc
    have n2 : ¬ c = 41 := fun e => by rw [e, low_41] at hc; cases hc
    have n3 : ¬ (c = 44 ∧ d = 0) := fun e => by rw [e.1, low_44] at hc; cases hc
    rw [List.cons_append]
    rw [show sp d cur (c :: (t ++ r)) = sp d (cur ++ [c]) (t ++ r) by simp only [sp, if_neg n1, if_neg n2, if_neg n3]]
    rw [ih (fun x hx => hw x (List.mem_cons_of_mem _ hx))]
    simp
theorem sp_open (d : Int) (cur r : S) : sp d cur (40 :: r) = sp (d + 1) (cur ++ [40]) r := rfl
theorem sp_shut (d : Int) (cur r : S) : sp d cur (41 :: r) = sp (d - 1) (cur ++ [41]) r := rfl
theorem sp_comma (cur r : S) : sp 0 cur (44 :: r) = cur :: sp 0 [] r := rfl
theorem sp_inner (d : Int) (hd : d ≠ 0) (cur r : S) : sp d cur (44 :: r) = sp d (cur ++ [44]) r := by
  have e : sp d cur (44 :: r) = if (44 : UInt8) = 44 ∧ d = 0 then cur :: sp d [] r else sp d (cur ++ [44]) r := rfl
  rw [e, if_neg (fun h => hd h.2)]
theorem sp_txt : ∀ (t : T) (d : Int) (cur r : S), wf t → 0 ≤ d → sp d cur (txt t ++ r) = sp d (cur ++ txt t) r
  | .atom w, d, cur, r, h, _ => sp_low h.1 d cur r
  | .one k a, d, cur, r, h, hd => by
    rw [show txt (.one k a) ++ r = k ++ (40 :: (txt a ++ 41 :: r)) by simp [txt], sp_low (kw_low k (.inl h.1)), sp_open, sp_txt a (d + 1) _ _ h.2 (by omega), sp_shut, show d + 1 - 1 = d by omega]
    simp [txt]
  | .two k a b, d, cur, r, h, hd => by
    rw [show txt (.two k a b) ++ r = k ++ (40 :: (txt a ++ 44 :: (txt b ++ 41 :: r))) by simp [txt], sp_low (kw_low k (.inr h.1)), sp_open, sp_txt a (d + 1) _ _ h.2.1 (by omega), sp_inner (d + 1) (by omega), sp_txt b (d + 1) _ _ h.2.2 (by omega), sp_shut, show d + 1 - 1 = d by omega]
    simp [txt]
/-- the word ahead of the parts, and these -/
def split (s : S) : S × List S :=
  match s.dropWhile (· != 40) with
  | [] => (kAtom, [])
  | _ :: m => (s.takeWhile (· != 40), if m = [] then [[]] else sp 0 [] m.dropLast)
theorem ne40 {w : S} (hw : ∀ c ∈ w, low c = true) : ∀ c ∈ w, (c != 40) = true := fun c hc => by
  have h := hw c hc
  by_cases e : c = 40
  · rw [e, low_40] at h; cases h
  · simp [e]
theorem take40 {w r : S} (hw : ∀ c ∈ w, (c != 40) = true) : (w ++ 40 :: r).takeWhile (· != 40) = w ∧ (w ++ 40 :: r).dropWhile (· != 40) = 40 :: r := by
  induction w with
  | nil => exact ⟨List.takeWhile_cons_of_neg (by decide), List.dropWhile_cons_of_neg (by decide)⟩
  | cons x t ih =>
    have hx := hw x (List.mem_cons_self ..)
    have h := ih fun c hc => hw c (List.mem_cons_of_mem _ hc)
    exact ⟨by rw [List.cons_append, List.takeWhile_cons_of_pos (p := fun c : UInt8 => c != 40) hx, h.1], by rw [List.cons_append, List.dropWhile_cons_of_pos (p := fun c : UInt8 => c != 40) hx, h.2]⟩
theorem drop40 {w : S} (hw : ∀ c ∈ w, (c != 40) = true) : w.dropWhile (· != 40) = [] := by
  induction w with
  | nil => rfl
  | cons x t ih => rw [List.dropWhile_cons_of_pos (p := fun c : UInt8 => c != 40) (hw x (List.mem_cons_self ..)), ih fun c hc => hw c (List.mem_cons_of_mem _ hc)]
theorem split_atom {w : S} (hw : ∀ c ∈ w, low c = true) : split w = (kAtom, []) := by
  unfold split
  rw [drop40 (ne40 hw)]
theorem split_one {k : S} {a : T} (h : wf (.one k a)) : split (txt (.one k a)) = (k, [txt a]) := by
  obtain ⟨e1, e2⟩ := take40 (w := k) (r := txt a ++ [41]) (ne40 (kw_low k (.inl h.1)))
  unfold split
  show (match (k ++ 40 :: (txt a ++ [41])).dropWhile (· != 40) with | [] => _ | _ :: m => _) = _
  rw [e2]
  show ((k ++ 40 :: (txt a ++ [41])).takeWhile (· != 40), _) = _
  rw [e1, if_neg (by simp), List.dropLast_concat]
  have := sp_txt a 0 [] [] h.2 (by omega)
  rw [List.append_nil] at this
  rw [this]
  rfl
theorem split_two {k : S} {a b : T} (h : wf (.two k a b)) : split (txt (.two k a b)) = (k, [txt a, txt b]) := by
  obtain ⟨e1, e2⟩ := take40 (w := k) (r := txt a ++ 44 :: (txt b ++ [41])) (ne40 (kw_low k (.inr h.1)))
  unfold split
  show (match (k ++ 40 :: (txt a ++ 44 :: (txt b ++ [41]))).dropWhile (· != 40) with | [] => _ | _ :: m => _) = _
  rw [e2]
  show ((k ++ 40 :: (txt a ++ 44 :: (txt b ++ [41]))).takeWhile (· != 40), _) = _
  rw [e1, if_neg (by simp), show txt a ++ 44 :: (txt b ++ [41]) = (txt a ++ 44 :: txt b) ++ [41] by simp, List.dropLast_concat, sp_txt a 0 [] _ h.2.1 (by omega), sp_comma]
  have := sp_txt b 0 [] [] h.2.2 (by omega)
  rw [List.append_nil] at this
  rw [this]
  rfl
/-- cut, a text is what it was -/
theorem split_back {s : S} {w : S} {ps : List S} (h : split s = (w, ps)) (hp : ps ≠ []) (hl : s.getLast? = some 41) : s = w ++ 40 :: (join ps ++ [41]) := by
  have hs := List.takeWhile_append_dropWhile (p := fun c : UInt8 => c != 40) (l := s)
  have h40 : ∀ x m, s.dropWhile (· != 40) = x :: m → x = 40 := by
    clear hs h hl
    induction s with
    | nil => intro x m e; cases e
    | cons y r ih =>
      intro x m e
      by_cases hy : (y != 40) = true
      · rw [List.dropWhile_cons_of_pos (p := fun c : UInt8 => c != 40) hy] at e
        exact ih x m e
      · rw [List.dropWhile_cons_of_neg (p := fun c : UInt8 => c != 40) hy] at e
        have : y = 40 := by simpa using hy
        rw [this] at e
        exact (List.cons.inj e).1.symm
  unfold split at h
  split at h
  · rw [Prod.mk.injEq] at h
    exact absurd h.2.symm hp
  · rename_i x m hm
    obtain rfl := h40 x m hm
    rw [hm] at hs
    rw [Prod.mk.injEq] at h
    obtain ⟨rfl, rfl⟩ := h
    by_cases hm0 : m = []
    · subst hm0
      rw [← hs] at hl
      simp at hl
    · rw [if_neg hm0, sp_join, List.nil_append]
      have hlast : m.getLast? = some 41 := by
        rw [← hs] at hl
        rw [List.getLast?_append] at hl
        cases m with
        | nil => exact absurd rfl hm0
        | cons y r => simpa using hl
      have hd : m.dropLast ++ [41] = m := by
        have h1 := List.dropLast_concat_getLast hm0
        rw [List.getLast?_eq_some_getLast hm0] at hlast
        rw [Option.some.inj hlast] at h1
        exact h1
      rw [hd, hs]
section
variable (lt : S → S → Bool)
/-- as it is written: a share's parts in order -/
def cn : T → T
  | .atom w => .atom w
  | .one k a => .one k (cn a)
  | .two k a b => if k = kShare ∧ lt (txt (cn b)) (txt (cn a)) = true then .two k (cn b) (cn a) else .two k (cn a) (cn b)
theorem cn_wf : ∀ t, wf t → wf (cn lt t)
  | .atom _, h => h
  | .one _ a, h => ⟨h.1, cn_wf a h.2⟩
  | .two k a b, h => by
    unfold cn
    split
    · exact ⟨h.1, cn_wf b h.2.2, cn_wf a h.2.1⟩
    · exact ⟨h.1, cn_wf a h.2.1, cn_wf b h.2.2⟩
theorem cn_len : ∀ t, (txt (cn lt t)).length = (txt t).length
  | .atom _ => rfl
  | .one _ a => by simp [cn, txt, cn_len a]
  | .two k a b => by
    have ha := cn_len a
    have hb := cn_len b
    unfold cn
    split <;> simp [txt, ha, hb]
    omega
def write (w : S) : List S → S
  | [a] => w ++ 40 :: (a ++ [41])
  | [a, b] => if w = kShare ∧ lt b a = true then w ++ 40 :: (b ++ 44 :: (a ++ [41])) else w ++ 40 :: (a ++ 44 :: (b ++ [41]))
  | _ => []
def cN : Nat → S → Option S
  | 0, _ => none
  | f + 1, s =>
    match split s with
    | (_, []) => if (∀ c ∈ s, low c = true) ∧ 1 ≤ s.length ∧ s.length ≤ 16 then some s else none
    | (w, p :: ps) => if s.getLast? = some 41 ∧ cnt w = ps.length + 1 then ((p :: ps).mapM (cN f)).map (write lt w) else none
theorem c_sound : ∀ (f : Nat) (s u : S), cN lt f s = some u → ∃ t, wf t ∧ txt t = s ∧ u = txt (cn lt t)
  | 0, _, _, h => by cases h
  | f + 1, s, u, h => by
    unfold cN at h
    split at h
    · split at h
      · rename_i hl
        obtain rfl := Option.some.inj h
        exact ⟨.atom s, ⟨hl.1, hl.2⟩, rfl, rfl⟩
      · cases h
    · rename_i w p ps hsp
      split at h
      · rename_i hl
        have hs := split_back hsp (by simp) hl.1
        obtain ⟨l, hm, rfl⟩ := Option.map_eq_some_iff.1 h
        rcases cnt_le w with hc | hc | hc
        · omega
        · match ps, hl with
          | [], hl =>
            simp only [List.mapM_cons, List.mapM_nil, Option.bind_eq_bind, Option.bind_eq_some_iff, Option.pure_def, Option.some.injEq] at hm
            obtain ⟨x, hx, _, rfl, rfl⟩ := hm
            obtain ⟨t, ht, rfl, rfl⟩ := c_sound f p x hx
            exact ⟨.one w t, ⟨of_cnt1 hc, ht⟩, by rw [hs]; rfl, rfl⟩
          | _ :: _, hl => have := hl.2; simp at this; omega
        · match ps, hl with
          | [], hl => have := hl.2; simp at this; omega
          | [q], hl =>
            simp only [List.mapM_cons, List.mapM_nil, Option.bind_eq_bind, Option.bind_eq_some_iff, Option.pure_def, Option.some.injEq] at hm
            obtain ⟨x, hx, _, ⟨y, hy, _, rfl, rfl⟩, rfl⟩ := hm
            obtain ⟨t, ht, rfl, rfl⟩ := c_sound f p x hx
            obtain ⟨t2, ht2, rfl, rfl⟩ := c_sound f q y hy
            refine ⟨.two w t t2, ⟨of_cnt2 hc, ht, ht2⟩, by rw [hs]; simp [txt, join], ?_⟩
            show (if w = kShare ∧ lt (txt (cn lt t2)) (txt (cn lt t)) = true then _ else _) = txt (if w = kShare ∧ lt (txt (cn lt t2)) (txt (cn lt t)) = true then _ else _)
            by_cases hsw : w = kShare ∧ lt (txt (cn lt t2)) (txt (cn lt t)) = true
            · rw [if_pos hsw, if_pos hsw]; rfl
            · rw [if_neg hsw, if_neg hsw]; rfl
          | _ :: _ :: _, hl => have := hl.2; simp at this; omega
      · cases h
theorem c_complete : ∀ (t : T) (f : Nat), wf t → (txt t).length ≤ f → cN lt f (txt t) = some (txt (cn lt t))
  | t, 0, h, hf => by have := txt_len t h; omega
  | .atom w, f + 1, h, _ => by
    unfold cN
    show (match split w with | (_, []) => _ | (_, _ :: _) => _) = _
    rw [split_atom h.1]
    exact if_pos h
  | .one k a, f + 1, h, hf => by
    unfold cN
    rw [split_one h]
    have ih := c_complete a f h.2 (by simp [txt] at hf; omega)
    have hl : (txt (.one k a)).getLast? = some 41 := by
      show (k ++ 40 :: (txt a ++ [41])).getLast? = _
      rw [show k ++ 40 :: (txt a ++ [41]) = (k ++ 40 :: txt a) ++ [41] by simp, List.getLast?_concat]
    show (if _ then _ else _) = _
    rw [if_pos ⟨hl, cnt1 h.1⟩]
    simp [ih, cn, txt, write]
  | .two k a b, f + 1, h, hf => by
    unfold cN
    rw [split_two h]
    have iha := c_complete a f h.2.1 (by simp [txt] at hf; omega)
    have ihb := c_complete b f h.2.2 (by simp [txt] at hf; omega)
    have hl : (txt (.two k a b)).getLast? = some 41 := by
      show (k ++ 40 :: (txt a ++ 44 :: (txt b ++ [41]))).getLast? = _
      rw [show k ++ 40 :: (txt a ++ 44 :: (txt b ++ [41])) = (k ++ 40 :: (txt a ++ 44 :: txt b)) ++ [41] by simp, List.getLast?_concat]
    show (if _ then _ else _) = _
    rw [if_pos ⟨hl, cnt2 h.1⟩]
    simp only [List.mapM_cons, List.mapM_nil, iha, ihb, Option.bind_eq_bind, Option.bind_some, Option.pure_def, Option.map_some]
    show some (if k = kShare ∧ lt (txt (cn lt b)) (txt (cn lt a)) = true then _ else _) = some (txt (if k = kShare ∧ lt (txt (cn lt b)) (txt (cn lt a)) = true then _ else _))
    by_cases hsw : k = kShare ∧ lt (txt (cn lt b)) (txt (cn lt a)) = true
    · rw [if_pos hsw, if_pos hsw]; rfl
    · rw [if_neg hsw, if_neg hsw]; rfl
/-! ### values -/
variable (bt : S → List S → S)
def vT : T → S
  | .atom w => w
  | .one k a => bt k [vT a]
  | .two k a b => bt k [vT a, vT b]
theorem v_cn (hsh : ∀ x y, bt kShare [x, y] = bt kShare [y, x]) : ∀ t, vT bt (cn lt t) = vT bt t
  | .atom _ => rfl
  | .one k a => by show bt k [vT bt (cn lt a)] = bt k [vT bt a]; rw [v_cn hsh a]
  | .two k a b => by
    have ha := v_cn hsh a
    have hb := v_cn hsh b
    unfold cn
    split
    · rename_i h
      show bt k [vT bt (cn lt b), vT bt (cn lt a)] = bt k [vT bt a, vT bt b]
      rw [ha, hb, h.1]
      exact hsh _ _
    · show bt k [vT bt (cn lt a), vT bt (cn lt b)] = bt k [vT bt a, vT bt b]
      rw [ha, hb]
end
/-- both readings -/
theorem rd_iff (lt : S → S → Bool) {s u : S} (h : cN lt s.length s = some u) : ∃ t, wf t ∧ txt t = s ∧ u = txt (cn lt t) ∧ ∀ f, s.length ≤ f → rd f s = some (t, []) := by
  obtain ⟨t, ht, rfl, hu⟩ := c_sound lt _ _ _ h
  refine ⟨t, ht, rfl, hu, fun f hf => ?_⟩
  have := rd_complete t f [] ht stop_nil hf
  rwa [List.append_nil] at this
theorem rd_none (lt : S → S → Bool) {s : S} (h : cN lt s.length s = none) (f : Nat) (t : T) : rd f s ≠ some (t, []) := fun e => by
  obtain ⟨hs, ht⟩ := rd_sound f s t [] e
  rw [List.append_nil] at hs
  subst hs
  rw [c_complete lt t _ ht (Nat.le_refl _)] at h
  cases h
end Go.Proofs.YtcbkbjpdfanjpaaGreatDoor.Tm
