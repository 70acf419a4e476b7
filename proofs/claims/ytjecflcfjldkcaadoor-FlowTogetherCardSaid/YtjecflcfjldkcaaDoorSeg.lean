/-
A slice of the call's own that is appended to and cut at its front: what is known of it, and append's law.
-/
import Derived.Test.YtjecflcfjldkcaaDoorOwn
import Derived.ArgAppend
namespace Go.Proofs.YtjecflcfjldkcaaDoor
open Go.RowKit

/-- slice v has n elements of 'size' cells each, which are xs; they lie in block g (where it has capacity), and its spare cells are there -/
def Seg (w : World) (g : Nat) (size : Nat) (v : Value) (n : Nat) (xs : List Value) : Prop :=
  xs.length = n * size ∧ ∃ (ao : Option Addr) (cap : Nat), v = .slice ao n cap ∧ n ≤ cap ∧ cap ≤ maxLen ∧
    (cap = 0 ∨ ∃ off, ao = some ⟨g, off, none⟩ ∧ g < w.heap.size ∧ (∀ j, j < cap * size → (w.cell? ⟨g, off + j, none⟩).isSome = true ∧ w.frozen? ⟨g, off + j, none⟩ = false) ∧ ∀ j, j < n * size → w.cell? ⟨g, off + j, none⟩ = xs[j]?)
theorem Seg.nil (w : World) (g size : Nat) : Seg w g size (.slice none 0 0) 0 [] := ⟨by simp, none, 0, rfl, Nat.le_refl _, Nat.zero_le _, .inl rfl⟩
theorem Seg.len {w : World} {g size : Nat} {v : Value} {n : Nat} {xs : List Value} (h : Seg w g size v n xs) : xs.length = n * size := h.1
theorem Seg.same {w w' : World} {g size : Nat} {v : Value} {n : Nat} {xs : List Value} (h : Seg w g size v n xs) (hs : w.heap.size ≤ w'.heap.size) (hb : g < w.heap.size → w'.heap[g]? = w.heap[g]?) : Seg w' g size v n xs := by
  obtain ⟨hl, ao, cap, rfl, h1, h2, h3⟩ := h
  refine ⟨hl, ao, cap, rfl, h1, h2, h3.imp id ?_⟩
  rintro ⟨off, rfl, hg, hc, hx⟩
  have e := hb hg
  refine ⟨off, rfl, by omega, fun j hj => ?_, fun j hj => ?_⟩
  · rw [World.cell?_of_block (w := w) (w' := w') (a := ⟨g, off + j, none⟩) e, World.frozen?_of_block (w := w) (w' := w') (a := ⟨g, off + j, none⟩) e]; exact hc j hj
  · rw [World.cell?_of_block (w := w) (w' := w') (a := ⟨g, off + j, none⟩) e]; exact hx j hj
theorem Seg.keeps {w w' : World} {F : Nat → Prop} {g size : Nat} {v : Value} {n : Nat} {xs : List Value} (h : Seg w g size v n xs) (hk : Keeps F w w') (hF : ¬ F g) : Seg w' g size v n xs :=
  h.same hk.size (fun hg => hk.block g hg hF)
theorem Seg.below {w w' : World} {g size : Nat} {v : Value} {n : Nat} {xs : List Value} (h : Seg w g size v n xs) (hb : Below w.heap.size w w') : Seg w' g size v n xs :=
  h.same hb.size (fun hg => hb.block g hg)
/-- a row of the call's own -/
theorem Seg.of_own {w : World} {base : Nat} {e : TypeId} {size : Nat} {v : Value} {n : Nat} {xs : List Value} (h : w.ownsRow base e size v n xs) (hn : 0 < n) :
    ∃ g cap, v = .slice (some ⟨g, 0, none⟩) n cap ∧ base ≤ g ∧ g < w.heap.size ∧ Seg w g size v n xs := by
  obtain ⟨hl, h⟩ := h
  rcases h with ⟨_, h0⟩ | ⟨g, cap, cur, rfl, hb, hg, hnc, hm, hsz, htk⟩
  · omega
  · have hgl : g < w.heap.size := (Array.getElem?_eq_some_iff.1 hg).1
    refine ⟨g, cap, rfl, hb, hgl, hl, _, cap, rfl, hnc, hm, .inr ⟨0, rfl, hgl, fun j hj => ?_, fun j hj => ?_⟩⟩
    · rw [Nat.zero_add]
      refine ⟨?_, by simp [World.frozen?, hg]⟩
      simp only [World.cell?, hg, Option.isSome_none, Bool.false_eq_true, if_false]
      rw [Array.getElem?_eq_getElem (by omega)]; rfl
    · rw [Nat.zero_add]
      simp only [World.cell?, hg, Option.isSome_none, Bool.false_eq_true, if_false]
      rw [← htk, List.getElem?_take_of_lt hj, Array.getElem?_toList]
theorem keeps_setCells (b : Nat) : ∀ (vs : List Value) (o : Nat) (w : World), Keeps (fun k => k = b) w (w.setCells b o vs)
  | [], _, w => Keeps.refl _ w
  | v :: r, o, w => ((Keeps.refl (fun k => k = b) w).set b o v (fun _ => rfl)).trans (keeps_setCells b r (o + 1) _) (fun _ _ h => h)

theorem run_append_seg {P : Program} (w : World) (t ty e : TypeId) (i : TypeInfo) (z : Value) (size bytes : Nat) (ht : P.underlying t = some (.slice e)) (hi : P.info? e = some i) (hz : i.zero = some z)
    (hsize : i.size = size) (hby : i.bytes = bytes) (hzs : z.cells.size = size) (hsz : 0 < size)
    (g : Nat) (v : Value) (n : Nat) (xs : List Value) (hseg : Seg w g size v n xs)
    (a : Addr) (m c : Nat) (news : List Value) (hl : news.length = m * size) (hnews : ∀ j u, news[j]? = some u → w.cell? (a.add j) = some u) (h1 : ∀ u ∈ news, u.oneCell' = true)
    (hm : 0 < m) (h63 : n + m ≤ maxLen) (hbytes : (n + m) * bytes ≤ 140737488355328) :
    ∃ v' g' w', (Builtin.append_ #[t, t] ty #[v, .slice (some a) m c]).run P w = .ok v' w' ∧ Seg w' g' size v' (n + m) (xs ++ news) ∧ (g' = g ∨ w.heap.size ≤ g') ∧ g' < w'.heap.size ∧ Keeps (fun k => k = g) w w' ∧
      ∃ o cap, v' = .slice (some ⟨g', o, none⟩) (n + m) cap := by
  obtain ⟨hlen, ao, cap, rfl, hnc, hcm, hcase⟩ := hseg
  have fin : ∀ v' w', w'.ownsRow w.heap.size e size v' (n + m) (xs ++ news) → w.grownBy w' none → ∃ g', Seg w' g' size v' (n + m) (xs ++ news) ∧ (g' = g ∨ w.heap.size ≤ g') ∧ g' < w'.heap.size ∧ Keeps (fun k => k = g) w w' ∧ ∃ o cap, v' = .slice (some ⟨g', o, none⟩) (n + m) cap := by
    intro v' w' ho hg
    obtain ⟨g', cap', rfl, hb, hlt, hs⟩ := Seg.of_own ho (by omega)
    exact ⟨g', hs, .inr hb, hlt, ⟨hg.os, hg.tape, hg.output, hg.size, fun k hk _ => hg.block k hk (by simp)⟩, 0, cap', rfl⟩
  by_cases hroom : n + m ≤ cap
  · rcases hcase with h0 | ⟨off, rfl, hg, hsp, hxs⟩
    · omega
    · subst hsize
      have hnm : (n + m) * i.size ≤ cap * i.size := Nat.mul_le_mul_right _ hroom
      rw [Nat.add_mul] at hnm
      have hrun := run_append_room_cells (P := P) w t ty e i ht hi g off n cap a m c news hl hnews h1 hroom
        (fun j hj => by rw [Nat.add_assoc]; exact (hsp _ (by omega)).1) (fun j hj => by rw [Nat.add_assoc]; exact (hsp _ (by omega)).2)
      have hk := keeps_setCells g news (off + n * i.size) w
      refine ⟨_, g, _, hrun, ⟨by rw [List.length_append, hlen, hl, Nat.add_mul], _, cap, rfl, hroom, hcm, .inr ⟨off, rfl, Nat.lt_of_lt_of_le hg hk.size, fun j hj => ?_, fun j hj => ?_⟩⟩, .inl rfl, Nat.lt_of_lt_of_le hg hk.size, hk, off, cap, rfl⟩
      · rw [World.frozen?_setCells]
        refine ⟨?_, (hsp j hj).2⟩
        by_cases hin : n * i.size ≤ j ∧ j < n * i.size + news.length
        · have := World.cell?_setCells_in g news (off + n * i.size) w (fun j hj => by rw [Nat.add_assoc]; exact (hsp _ (by omega)).1) (j - n * i.size) (by omega)
          rw [show off + n * i.size + (j - n * i.size) = off + j from by omega] at this
          rw [this]; rfl
        · rw [World.cell?_setCells_out g news _ w _ (fun _ _ => by show off + j < _ ∨ _ ≤ off + j; omega)]
          exact (hsp j hj).1
      · rw [Nat.add_mul] at hj
        by_cases hin : j < n * i.size
        · rw [World.cell?_setCells_out g news _ w _ (fun _ _ => by show off + j < _ ∨ _ ≤ off + j; omega), hxs j hin, List.getElem?_append_left (by omega)]
        · have := World.cell?_setCells_in g news (off + n * i.size) w (fun j hj => by rw [Nat.add_assoc]; exact (hsp _ (by omega)).1) (j - n * i.size) (by omega)
          rw [show off + n * i.size + (j - n * i.size) = off + j from by omega] at this
          rw [this, List.getElem?_append_right (by omega), hlen, List.getElem?_eq_getElem]
  · rcases hcase with h0 | ⟨off, rfl, hg, hsp, hxs⟩
    · obtain rfl : n = 0 := by omega
      obtain rfl : xs = [] := List.eq_nil_of_length_eq_zero (by simpa using hlen)
      subst h0
      cases ao with
      | none =>
        obtain ⟨v', w', hrun, r1, r2, _⟩ := run_append_own (P := P) w w.heap.size t ty e i z size bytes ht hi hz hsize hby hzs hsz (.slice none 0 0) 0 [] (World.ownsRow_nil w _ e size) a m c news hl hnews h1 h63 hbytes (Nat.le_refl _)
        obtain ⟨g', hh⟩ := fin v' w' r1 r2
        exact ⟨v', g', w', hrun, hh⟩
      | some b =>
        obtain ⟨v', w', hrun, r1, r2⟩ := run_append_arg_grows (P := P) w t ty e i z size bytes ht hi hz hsize hby hzs hsz b 0 0 [] (by simp) (fun j u h => by simp at h) a m c news hl hnews (by omega) h63 hbytes
        obtain ⟨g', hh⟩ := fin v' w' r1 r2
        exact ⟨v', g', w', hrun, hh⟩
    · obtain ⟨v', w', hrun, r1, r2⟩ := run_append_arg_grows (P := P) w t ty e i z size bytes ht hi hz hsize hby hzs hsz ⟨g, off, none⟩ n cap xs hlen (fun j u h => by
        have hj := (List.getElem?_eq_some_iff.1 h).1
        rw [Addr.add_lit, hxs j (by omega)]; exact h) a m c news hl hnews (by omega) h63 hbytes
      obtain ⟨g', hh⟩ := fin v' w' r1 r2
      exact ⟨v', g', w', hrun, hh⟩

/-- append, as the walk meets it -/
theorem wpList_append_seg {P : Program} (w : World) {ops : Array Oper} {rest : List Oper} {o : Oper} {a : Act} {Q : Exit → Act → World → Prop}
    (hg : o.guard = none) (s x : Operand) (t : TypeId) (hop : o.op = Op.call { callee := Callee.builtin Builtin.append, args := #[s, x], argTypes := #[t, t] })
    (e : TypeId) (i : TypeInfo) (z : Value) (size bytes : Nat) (h1 : P.underlying t = some (.slice e)) (h2 : P.info? e = some i) (h3 : i.zero = some z) (h4 : i.size = size) (h5 : i.bytes = bytes) (h6 : z.cells.size = size) (h7 : 0 < size)
    (g : Nat) (v : Value) (n : Nat) (xs : List Value) (hs : a.eval s = v) (hseg : Seg w g size v n xs)
    (ad : Addr) (m c : Nat) (news : List Value) (hx : a.eval x = .slice (some ad) m c) (hn : news.length = m * size) (hc : ∀ j u, news[j]? = some u → w.cell? (ad.add j) = some u) (h1c : ∀ u ∈ news, u.oneCell' = true)
    (hm : 0 < m) (b1 : n + m ≤ maxLen) (b2 : (n + m) * bytes ≤ 140737488355328)
    (hK : ∀ g' off cap w', Seg w' g' size (.slice (some ⟨g', off, none⟩) (n + m) cap) (n + m) (xs ++ news) → (g' = g ∨ w.heap.size ≤ g') → g' < w'.heap.size → Keeps (fun k => k = g) w w' → wpList P ops Q rest (a.put o.dst (.slice (some ⟨g', off, none⟩) (n + m) cap)) w') :
    wpList P ops Q (o :: rest) a w := by
  refine wpList_plain hg fun K hK' => ?_
  obtain ⟨v', g', w', hrun, r1, r2, r3, r4, off, cap, rfl⟩ := run_append_seg (P := P) w t o.type e i z size bytes h1 h2 h3 h4 h5 h6 h7 g v n xs hseg ad m c news hn hc h1c hm b1 b2
  unfold Oper.wp
  simp [execOp, hop, resolve, invoke, builtin, hs, hx, hrun, Result.andThen]
  exact hK' _ _ (hK g' off cap w' r1 r2 r3 r4)

/-- what is known of a slice that is not empty, to walk on -/
theorem Seg.open {w : World} {g size : Nat} {v : Value} {n : Nat} {xs : List Value} (h : Seg w g size v n xs) (hn : 0 < n) :
    ∃ off cap, v = .slice (some ⟨g, off, none⟩) n cap ∧ n ≤ cap ∧ cap ≤ maxLen ∧ g < w.heap.size ∧ (∀ j, j < n * size → w.cell? ⟨g, off + j, none⟩ = xs[j]?) ∧
      Seg w g size (if cap = 1 then .slice (some ⟨g, off, none⟩) (n - 1) (cap - 1) else .slice (some ⟨g, off + size, none⟩) (n - 1) (cap - 1)) (n - 1) (xs.drop size) := by
  obtain ⟨hl, ao, cap, rfl, h1, h2, h3⟩ := h
  rcases h3 with h0 | ⟨off, rfl, hg, hc, hx⟩
  · omega
  · refine ⟨off, cap, rfl, h1, h2, hg, hx, ?_⟩
    have e1 : n * size = (n - 1) * size + size := by
      obtain ⟨k, rfl⟩ : ∃ k, n = k + 1 := ⟨n - 1, by omega⟩
      rw [Nat.add_sub_cancel, Nat.add_mul, Nat.one_mul]
    have e2 : cap * size = (cap - 1) * size + size := by
      obtain ⟨k, rfl⟩ : ∃ k, cap = k + 1 := ⟨cap - 1, by omega⟩
      rw [Nat.add_sub_cancel, Nat.add_mul, Nat.one_mul]
    have hl2 : (xs.drop size).length = (n - 1) * size := by rw [List.length_drop, hl]; omega
    split
    · rename_i hc1
      exact ⟨hl2, _, _, rfl, by omega, by omega, .inl (by omega)⟩
    · refine ⟨hl2, _, _, rfl, by omega, by omega, .inr ⟨off + size, rfl, hg, fun j hj => ?_, fun j hj => ?_⟩⟩
      · rw [Nat.add_assoc]; exact hc _ (by omega)
      · rw [Nat.add_assoc, hx _ (by omega), List.getElem?_drop]
end Go.Proofs.YtjecflcfjldkcaaDoor
