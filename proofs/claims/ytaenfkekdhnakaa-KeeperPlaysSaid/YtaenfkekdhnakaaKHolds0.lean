/-
KeeperHolds: the plain law. What the law keeps by hand is what the keeper keeps.
-/
import Derived.Test.YtaenfkekdhnakaaKOpen
namespace Go.Proofs.Ytaenfkekdhnakaa
open Go.RowKit

/-- the kinds of what is asked -/
def asks (l : List Int) : List Nat := l.map fun x => if x = -1 then 3 else 2
/-- how many of the first n are held -/
def cnt (w : List Nat) : Nat → Nat
  | 0 => 0
  | n + 1 => cnt w n + if w.getD n 0 = 1 then 1 else 0
theorem heldN_cnt (s : KS) : ∀ n, (s.heldN n).length = cnt s.wants n
  | 0 => rfl
  | n + 1 => by
    unfold KS.heldN cnt
    split <;> simp [heldN_cnt s n]
theorem cnt_congr (w v : List Nat) : ∀ n, (∀ j, j < n → (w.getD j 0 = 1 ↔ v.getD j 0 = 1)) → cnt w n = cnt v n
  | 0, _ => rfl
  | n + 1, h => by
    unfold cnt
    rw [cnt_congr w v n (fun j hj => h j (by omega))]
    have := h n (by omega)
    by_cases e : w.getD n 0 = 1
    · rw [if_pos e, if_pos (this.1 e)]
    · rw [if_neg e, if_neg (fun e' => e (this.2 e'))]
theorem cnt_zero (w : List Nat) : ∀ n, (∀ j, j < n → w.getD j 0 ≠ 1) → cnt w n = 0
  | 0, _ => rfl
  | n + 1, h => by
    unfold cnt
    rw [cnt_zero w n (fun j hj => h j (by omega)), if_neg (h n (by omega))]
theorem cnt_le (w : List Nat) : ∀ n, cnt w n ≤ n
  | 0 => Nat.le_refl _
  | n + 1 => by
    have := cnt_le w n
    unfold cnt
    split <;> omega
theorem getD_set (w : List Nat) (i d j : Nat) (hi : i < w.length) : (w.set i d).getD j 0 = if j = i then d else w.getD j 0 := by
  rw [List.getD_eq_getElem?_getD]
  by_cases e : j = i
  · subst e; rw [if_pos rfl, List.getElem?_set_self hi]; rfl
  · rw [if_neg e, List.getElem?_set_ne (Ne.symm e), List.getD_eq_getElem?_getD]
theorem cnt_set (w : List Nat) (i d : Nat) (hi : i < w.length) (h0 : w.getD i 0 = 0) : ∀ n, i < n → cnt (w.set i d) n = cnt w n + if d = 1 then 1 else 0
  | 0, h => by omega
  | n + 1, h => by
    unfold cnt
    rw [getD_set w i d n hi]
    by_cases e : n = i
    · subst e
      rw [if_pos rfl, h0, cnt_congr (w.set n d) w n (fun j hj => by rw [getD_set w n d j hi, if_neg (by omega)])]
      simp
    · rw [if_neg e, cnt_set w i d hi h0 n (by omega)]; omega

/-- beside its numbers: nothing is held outside; what is asked is open, and asked once -/
structure Good (s : KS) : Prop where
  out : s.state ≠ 2 → ∀ j, s.wants.getD j 0 ≠ 1
  op : ∀ x ∈ s.asked, 0 ≤ x → s.wants.getD x.toNat 0 = 0
  nd : s.asked.Pairwise fun x y => x = -1 ∨ x ≠ y

/-- asking, so far -/
structure AskG (s : KS) (which : Nat → Bool) (i : Nat) : Prop where
  op : ∀ x ∈ (s.askN which i).2.1, x = -1 ∨ (0 ≤ x ∧ x < i ∧ (s.askN which i).1.getD x.toNat 0 = 0)
  nd : (s.askN which i).2.1.Pairwise fun x y => x = -1 ∨ x ≠ y
  kinds : asks (s.askN which i).2.1 = asks s.asked ++ (s.askN which i).2.2.map Prod.fst
  acts : ∀ a ∈ (s.askN which i).2.2, a.1 = 2
  done : ∀ j, j < i → which (s.wants.getD j 0) = true → (s.askN which i).1.getD j 0 = 0
  rest : ∀ j, (s.askN which i).1.getD j 0 = 0 ∨ (s.askN which i).1.getD j 0 = s.wants.getD j 0
  kept : ∀ j, which (s.wants.getD j 0) = false → (s.askN which i).1.getD j 0 = s.wants.getD j 0
theorem askG (s : KS) (which : Nat → Bool) (ha : ∀ x ∈ s.asked, x = -1) : ∀ i, i ≤ s.wants.length → AskG s which i
  | 0, _ => ⟨fun x hx => .inl (ha x hx), List.pairwise_iff_forall_sublist.2 (fun h => .inl (ha _ (h.subset (by simp)))), by simp [KS.askN, asks], fun a h => by simp [KS.askN] at h, fun j h => by omega, fun j => .inr rfl, fun j _ => rfl⟩
  | i + 1, hi => by
    have ih := askG s which ha i (by omega)
    have hl := (askN_len s which i).1
    have hself := askN_get s which i i (Nat.le_refl _)
    by_cases hw : which (s.wants.getD i 0) = true
    · have e : s.askN which (i + 1) = ((s.askN which i).1.set i 0, (s.askN which i).2.1 ++ [(i : Int)], (s.askN which i).2.2 ++ [(2, s.names.getD i ⟨#[]⟩)]) := by
        show (if _ then _ else _) = _; rw [if_pos hw]
      have hset : ∀ j, ((s.askN which i).1.set i 0).getD j 0 = if j = i then 0 else (s.askN which i).1.getD j 0 := fun j => getD_set _ _ _ _ (by omega)
      refine ⟨?_, ?_, ?_, ?_, ?_, ?_, ?_⟩
      · rw [e]
        intro x hx
        rcases List.mem_append.1 hx with h | h
        · rcases ih.op x h with h1 | ⟨h1, h2, h3⟩
          · exact .inl h1
          · refine .inr ⟨h1, by omega, ?_⟩
            show ((s.askN which i).1.set i 0).getD _ 0 = 0
            rw [hset]; split
            · rfl
            · exact h3
        · rw [List.mem_singleton] at h
          subst h
          refine .inr ⟨by omega, by omega, ?_⟩
          show ((s.askN which i).1.set i 0).getD _ 0 = 0
          rw [hset, if_pos (by omega)]
      · rw [e]
        refine List.pairwise_append.2 ⟨ih.nd, List.pairwise_singleton _ _, fun x hx y hy => ?_⟩
        rw [List.mem_singleton] at hy
        subst hy
        rcases ih.op x hx with h1 | ⟨h1, h2, h3⟩
        · exact .inl h1
        · exact .inr (by omega)
      · rw [e]
        show asks ((s.askN which i).2.1 ++ [(i : Int)]) = asks s.asked ++ ((s.askN which i).2.2 ++ [(2, s.names.getD i ⟨#[]⟩)]).map Prod.fst
        rw [List.map_append, ← List.append_assoc, ← ih.kinds]
        unfold asks
        rw [List.map_append]
        simp
      · rw [e]
        intro a h
        rcases List.mem_append.1 h with h | h
        · exact ih.acts a h
        · rw [List.mem_singleton] at h; subst h; rfl
      · rw [e]
        intro j hj hwj
        show ((s.askN which i).1.set i 0).getD _ 0 = 0
        rw [hset]; split
        · rfl
        · exact ih.done j (by omega) hwj
      · rw [e]
        intro j
        show ((s.askN which i).1.set i 0).getD _ 0 = 0 ∨ ((s.askN which i).1.set i 0).getD _ 0 = _
        rw [hset]; split
        · exact .inl rfl
        · exact ih.rest j
      · rw [e]
        intro j hwj
        show ((s.askN which i).1.set i 0).getD _ 0 = _
        rw [hset]; split
        · rename_i h; subst h; rw [hw] at hwj; cases hwj
        · exact ih.kept j hwj
    · have e : s.askN which (i + 1) = s.askN which i := by show (if _ then _ else _) = _; rw [if_neg hw]
      refine ⟨?_, ?_, ?_, ?_, ?_, ?_, ?_⟩
      · rw [e]; intro x hx; exact (ih.op x hx).imp id fun ⟨a, b, c⟩ => ⟨a, by omega, c⟩
      · rw [e]; exact ih.nd
      · rw [e]; exact ih.kinds
      · rw [e]; exact ih.acts
      · rw [e]
        intro j hj hwj
        by_cases h : j = i
        · subst h; exact absurd hwj hw
        · exact ih.done j (by omega) hwj
      · rw [e]; exact ih.rest
      · rw [e]; exact ih.kept

/-- what the law does at an act -/
structure Hs where
  a : List Nat
  h : Nat
def Hs.first (x : Hs) (was : Nat) (c : Int) : Hs :=
  if (c = 3 ∨ c = 4) ∧ x.a ≠ [] ∧ was = 2 then { a := x.a.tail, h := if c = 3 ∧ x.a.headD 0 = 2 then x.h + 1 else x.h } else x
def Hs.then (x : Hs) (l : List Nat) (st : Nat) : Hs := if st = 2 then { a := x.a ++ l.filter (fun k => k == 2 || k == 3), h := x.h } else { a := [], h := 0 }
def stepK (s : KS) (c : Int) : KS × List (Nat × ByteArray) := if c = 0 then s.tick else s.told c
/-- what the law keeps is what the keeper keeps -/
structure HInv (s : KS) (x : Hs) : Prop where
  ok : s.Ok
  good : Good s
  a : x.a = asks s.asked
  h : x.h = s.held.length
theorem held_cnt (s : KS) : s.held.length = cnt s.wants s.names.length := heldN_cnt s _
theorem Good.new (names : List ByteArray) (f m bt : Int) : Good (newS names f m bt) :=
  ⟨fun _ j => by
    show (List.replicate _ 0).getD j 0 ≠ 1
    rw [List.getD_eq_getElem?_getD, List.getElem?_replicate]
    split <;> simp, fun x hx => (by cases hx), List.Pairwise.nil⟩
theorem held_out {s : KS} (h : Good s) (hs : s.state ≠ 2) : s.held.length = 0 := by
  rw [held_cnt]; exact cnt_zero _ _ fun j _ => h.out hs j
theorem HInv.new (names : List ByteArray) (f m bt : Int) : HInv (newS names f m bt) ⟨[], 0⟩ :=
  ⟨Ok.new names f m bt, Good.new names f m bt, rfl, (held_out (Good.new names f m bt) (by show 0 ≠ 2; omega)).symm⟩
theorem filter_acts (l : List (Nat × ByteArray)) (h : ∀ a ∈ l, a.1 = 2) : (l.map Prod.fst).filter (fun k => k == 2 || k == 3) = l.map Prod.fst := by
  rw [List.filter_eq_self]
  intro k hk
  obtain ⟨a, ha, rfl⟩ := List.mem_map.1 hk
  rw [h a ha]; rfl
theorem Good.fail (s : KS) : Good s.fail :=
  ⟨fun _ j => by
    show (List.replicate _ 0).getD j 0 ≠ 1
    rw [List.getD_eq_getElem?_getD, List.getElem?_replicate]
    split <;> simp, fun x hx => (by cases hx), List.Pairwise.nil⟩
theorem HInv.out {s' : KS} (ho : s'.Ok) (hg : Good s') (hs : s'.state ≠ 2) (x : Hs) (l : List Nat) : HInv s' (x.then l s'.state) := by
  unfold Hs.then
  rw [if_neg hs]
  refine ⟨ho, hg, ?_, (held_out hg hs).symm⟩
  rw [ho.trying hs]; rfl
theorem HInv.ask {s : KS} {which : Nat → Bool} (ho : (s.askAt which s.names.length).Ok) (hl : s.names.length = s.wants.length) (hs : s.state = 2) (ha : ∀ x ∈ s.asked, x = -1) (x : Hs) (pre : List Nat) (acts : List (Nat × ByteArray)) (hac : acts.map Prod.fst = pre ++ (s.askN which s.names.length).2.2.map Prod.fst)
    (hp : x.a ++ pre.filter (fun k => k == 2 || k == 3) = asks s.asked) (hh : x.h = cnt (s.askN which s.names.length).1 s.names.length) : HInv (s.askAt which s.names.length) (x.then (acts.map Prod.fst) (s.askAt which s.names.length).state) := by
  have G := askG s which ha s.names.length (by omega)
  unfold Hs.then
  rw [if_pos (show (s.askAt which s.names.length).state = 2 from hs), hac]
  refine ⟨ho, ⟨fun h => absurd hs h, fun y hy h0 => ?_, G.nd⟩, ?_, ?_⟩
  · rcases G.op y hy with h | h
    · omega
    · exact h.2.2
  · show x.a ++ (pre ++ _).filter _ = asks (s.askN which s.names.length).2.1
    rw [List.filter_append, ← List.append_assoc, hp, filter_acts _ G.acts, G.kinds]
  · rw [held_cnt]; exact hh
theorem HInv.step {s : KS} {x : Hs} (h : HInv s x) (c : Int) (hc : s.clock < 1000000000000) : HInv (stepK s c).1 ((x.first s.state c).then ((stepK s c).2.map Prod.fst) (stepK s c).1.state) := by
  have ho := h.ok
  have hn := ho.names
  unfold stepK
  by_cases h0 : c = 0
  · subst h0
    have hf : x.first s.state 0 = x := by unfold Hs.first; rw [if_neg (by omega)]
    rw [if_pos rfl, hf]
    have hok := Ok.tick ho hc
    have stay : Good s.tick1 := ⟨h.good.out, h.good.op, h.good.nd⟩
    unfold KS.tick at hok ⊢
    split
    · rename_i h1
      rw [if_pos h1] at hok
      split
      · rename_i h2
        rw [if_pos h2] at hok
        exact .out hok ⟨fun _ => h.good.out (by omega), h.good.op, h.good.nd⟩ (by show 1 ≠ 2; omega) _ _
      · rename_i h2
        rw [if_neg h2] at hok
        exact .out hok stay (by show s.state ≠ 2; omega) _ _
    · rename_i h1
      rw [if_neg h1] at hok
      split
      · rename_i h2
        rw [if_pos h2] at hok
        split
        · rename_i h3
          rw [if_pos h3] at hok
          exact .out hok (Good.fail _) (by show 0 ≠ 2; omega) _ _
        · rename_i h3
          rw [if_neg h3] at hok
          exact .out hok stay (by show s.state ≠ 2; omega) _ _
      · rename_i h2
        rw [if_neg h2] at hok
        have hs2 : s.state = 2 := by have := ho.state; omega
        split
        · rename_i h3
          rw [if_pos h3] at hok
          split
          · rename_i h4
            rw [if_pos h4] at hok
            refine HInv.ask (s := s.pinged) hok hn hs2 (fun y hy => by have hy' : y ∈ [(-1 : Int)] := hy; simpa using hy') x [3] _ rfl ?_ ?_
            · rw [h.a, h4]; rfl
            · rw [h.h, held_cnt]
              have G := askG s.pinged (fun k => k == 2) (fun y hy => by have hy' : y ∈ [(-1 : Int)] := hy; simpa using hy') s.pinged.names.length (by show s.names.length ≤ s.wants.length; omega)
              refine cnt_congr _ _ _ fun j hj => ?_
              have e : s.pinged.wants = s.wants := rfl
              by_cases hw : (s.wants.getD j 0 == 2) = true
              · have := G.done j hj hw
                rw [this]
                simp only [beq_iff_eq] at hw
                omega
              · have := G.kept j (by rw [e]; simpa using hw)
                rw [this, e]
          · rename_i h4
            rw [if_neg h4] at hok
            exact .out hok (Good.fail _) (by show 0 ≠ 2; omega) _ _
        · rename_i h3
          rw [if_neg h3] at hok
          refine ⟨hok, stay, ?_, ?_⟩
          · unfold Hs.then
            rw [if_pos (show s.tick1.state = 2 from hs2)]
            show x.a ++ [] = _
            rw [List.append_nil, h.a]; rfl
          · unfold Hs.then
            rw [if_pos (show s.tick1.state = 2 from hs2)]
            show x.h = s.tick1.held.length
            rw [held_cnt, h.h, held_cnt]; rfl
  · rw [if_neg h0]
    have hok := Ok.told ho c
    unfold KS.told at hok ⊢
    split
    · rename_i h1
      rw [if_pos h1] at hok
      have hf : x.first s.state c = x := by unfold Hs.first; rw [if_neg (by omega)]
      rw [hf]
      have hnil := ho.trying (show s.state ≠ 2 by omega)
      refine HInv.ask (s := s.entered) hok hn rfl (fun y hy => by have hy' : y ∈ s.asked := hy; rw [hnil] at hy'; cases hy') x [] _ rfl ?_ ?_
      · rw [h.a]; show _ ++ [] = asks s.asked; rw [List.append_nil]
      · rw [h.h, held_out h.good (by omega)]
        have G := askG s.entered (fun _ => true) (fun y hy => by have hy' : y ∈ s.asked := hy; rw [hnil] at hy'; cases hy') s.entered.names.length (by show s.names.length ≤ s.wants.length; omega)
        exact (cnt_zero _ _ fun j hj => by rw [G.done j hj rfl]; omega).symm
    · rename_i h1
      rw [if_neg h1] at hok
      split
      · rename_i h2
        rw [if_pos h2] at hok
        exact .out hok (Good.fail _) (by show 0 ≠ 2; omega) _ _
      · rename_i h2
        rw [if_neg h2] at hok
        split
        · rename_i h3
          rw [if_pos h3] at hok
          obtain ⟨h3a, h3b, h3c⟩ := h3
          have hne : x.a ≠ [] := by
            rw [h.a]; unfold asks; simpa using h3c
          have hf : x.first s.state c = { a := x.a.tail, h := if c = 3 ∧ x.a.headD 0 = 2 then x.h + 1 else x.h } := by
            unfold Hs.first; rw [if_pos ⟨h3a, hne, h3b⟩]
          rw [hf]
          unfold Hs.then
          rw [if_pos (show (s.answered _).state = 2 from h3b)]
          obtain ⟨y, r, hyr⟩ : ∃ y r, s.asked = y :: r := by
            cases hq : s.asked with
            | nil => exact absurd hq h3c
            | cons y r => exact ⟨y, r, rfl⟩
          have hpl := ho.places y (by rw [hyr]; simp)
          have hnd := h.good.nd
          rw [hyr, List.pairwise_cons] at hnd
          have hxa : x.a = (if y = -1 then 3 else 2) :: asks r := by rw [h.a, hyr]; rfl
          by_cases hy : y = -1
          · have hw : (s.answered (c - 2).toNat).wants = s.wants := by unfold KS.answered; rw [hyr, List.headD_cons, if_pos hy]
            refine ⟨hok, ⟨fun hh => absurd h3b hh, fun z hz h0 => ?_, ?_⟩, ?_, ?_⟩
            · rw [hw]
              refine h.good.op z ?_ h0
              have hz' : z ∈ s.asked.tail := hz
              exact List.mem_of_mem_tail hz'
            · show s.asked.tail.Pairwise _
              rw [hyr]; exact hnd.2
            · show x.a.tail ++ [] = asks s.asked.tail
              rw [List.append_nil, hxa, hyr]; rfl
            · show (if c = 3 ∧ x.a.headD 0 = 2 then x.h + 1 else x.h) = _
              rw [if_neg (fun hh => by have := hh.2; rw [hxa, if_pos hy] at this; simp at this), h.h, held_cnt, held_cnt, hw]; rfl
          · have hy0 : 0 ≤ y := by omega
            have hw : (s.answered (c - 2).toNat).wants = s.wants.set y.toNat (c - 2).toNat := by unfold KS.answered; rw [hyr, List.headD_cons, if_neg hy]
            have hlt : y.toNat < s.wants.length := by omega
            have hz0 := h.good.op y (by rw [hyr]; simp) hy0
            refine ⟨hok, ⟨fun hh => absurd h3b hh, fun z hz h0 => ?_, ?_⟩, ?_, ?_⟩
            · have hz' : z ∈ s.asked.tail := hz
              rw [hw, getD_set _ _ _ _ hlt, if_neg ?_]
              · exact h.good.op z (List.mem_of_mem_tail hz') h0
              · rw [hyr] at hz'
                have := hnd.1 z hz'
                omega
            · show s.asked.tail.Pairwise _
              rw [hyr]; exact hnd.2
            · show x.a.tail ++ [] = asks s.asked.tail
              rw [List.append_nil, hxa, hyr]; rfl
            · show (if c = 3 ∧ x.a.headD 0 = 2 then x.h + 1 else x.h) = _
              rw [hxa, if_neg hy]
              simp only [List.headD_cons, and_true]
              rw [held_cnt, hw]
              show _ = cnt _ s.names.length
              rw [cnt_set _ _ _ hlt hz0 _ (by omega), h.h, held_cnt]
              rcases h3a with e | e
              · subst e; simp
              · subst e; simp
        · rename_i h3
          rw [if_neg h3] at hok
          have hf : x.first s.state c = x := by
            unfold Hs.first
            rw [if_neg fun ⟨a, b, d⟩ => h3 ⟨a, d, fun e => b (by rw [h.a, e]; rfl)⟩]
          rw [hf]
          by_cases hs : s.state = 2
          · unfold Hs.then
            rw [if_pos hs]
            exact ⟨hok, h.good, by show x.a ++ [] = _; rw [List.append_nil, h.a], h.h⟩
          · exact .out hok h.good hs _ _
theorem HInv.held_le {s : KS} {x : Hs} (h : HInv s x) : x.h ≤ s.names.length := by
  rw [h.h, held_cnt]; exact cnt_le _ _
theorem HInv.asked_len {s : KS} {x : Hs} (h : HInv s x) : x.a.length = s.asked.length := by rw [h.a]; simp [asks]
end Go.Proofs.Ytaenfkekdhnakaa
