/-
A slice of the call's own that is appended to and cut at its front, its block told by the value itself: what is known of it, and append's law, clear's law.
append of whatever slice, empty or not: what the result holds, and in which block.
-/
import Derived.ArgAppend
import Derived.Test.YtcbkbjpdfanjpaaGreatDoorPk01
namespace Go.Proofs.YtcbkbjpdfanjpaaGreatDoor
open Go.RowKit

/-- the block in which a slice's cells lie, if it has any -/
def vblk : Value → Option Nat
  | .slice (some a) _ cap => if cap = 0 then none else some a.block
  | _ => none
/-- slice v has n elements of 'size' cells each, which are xs; its spare cells are there -/
def Sg (w : World) (size : Nat) (v : Value) (n : Nat) (xs : List Value) : Prop :=
  xs.length = n * size ∧ ∃ (ao : Option Addr) (cap : Nat), v = .slice ao n cap ∧ n ≤ cap ∧ cap ≤ maxLen ∧
    (cap = 0 ∨ ∃ g off, ao = some ⟨g, off, none⟩ ∧ g < w.heap.size ∧ (∀ j, j < cap * size → (w.cell? ⟨g, off + j, none⟩).isSome = true ∧ w.frozen? ⟨g, off + j, none⟩ = false) ∧ ∀ j, j < n * size → w.cell? ⟨g, off + j, none⟩ = xs[j]?)
theorem Sg.nil (w : World) (size : Nat) : Sg w size (.slice none 0 0) 0 [] := ⟨by simp, none, 0, rfl, Nat.le_refl _, Nat.zero_le _, .inl rfl⟩
theorem Sg.len {w : World} {size : Nat} {v : Value} {n : Nat} {xs : List Value} (h : Sg w size v n xs) : xs.length = n * size := h.1
theorem Sg.lt {w : World} {size : Nat} {v : Value} {n : Nat} {xs : List Value} (h : Sg w size v n xs) {g : Nat} (hg : vblk v = some g) : g < w.heap.size := by
  obtain ⟨_, ao, cap, rfl, _, _, h3⟩ := h
  rcases h3 with rfl | ⟨g', off, rfl, hl, _⟩
  · cases ao <;> simp [vblk] at hg
  · by_cases hc : cap = 0
    · simp [vblk, hc] at hg
    · simp [vblk, hc] at hg; omega
theorem Sg.same {w w' : World} {size : Nat} {v : Value} {n : Nat} {xs : List Value} (h : Sg w size v n xs) (hs : w.heap.size ≤ w'.heap.size) (hb : ∀ g, vblk v = some g → w'.heap[g]? = w.heap[g]?) : Sg w' size v n xs := by
  obtain ⟨hl, ao, cap, rfl, h1, h2, h3⟩ := h
  refine ⟨hl, ao, cap, rfl, h1, h2, ?_⟩
  rcases Nat.eq_zero_or_pos cap with h0 | h0
  · exact .inl h0
  · rcases h3 with h3 | ⟨g, off, rfl, hg, hc, hx⟩
    · omega
    · have e := hb g (by simp [vblk]; omega)
      refine .inr ⟨g, off, rfl, by omega, fun j hj => ?_, fun j hj => ?_⟩
      · rw [World.cell?_of_block (w := w) (w' := w') (a := ⟨g, off + j, none⟩) e, World.frozen?_of_block (w := w) (w' := w') (a := ⟨g, off + j, none⟩) e]; exact hc j hj
      · rw [World.cell?_of_block (w := w) (w' := w') (a := ⟨g, off + j, none⟩) e]; exact hx j hj
theorem Sg.keeps {w w' : World} {F : Nat → Prop} {size : Nat} {v : Value} {n : Nat} {xs : List Value} (h : Sg w size v n xs) (hk : Keeps F w w') (hF : ∀ g, vblk v = some g → ¬ F g) : Sg w' size v n xs :=
  h.same hk.size (fun g hg => hk.block g (h.lt hg) (hF g hg))
theorem Sg.below {w w' : World} {size : Nat} {v : Value} {n : Nat} {xs : List Value} (h : Sg w size v n xs) (hb : Below w.heap.size w w') : Sg w' size v n xs :=
  h.same hb.size (fun g hg => hb.block g (h.lt hg))
/-- a row of the call's own -/
theorem Sg.of_own {w : World} {base : Nat} {e : TypeId} {size : Nat} {v : Value} {n : Nat} {xs : List Value} (h : w.ownsRow base e size v n xs) (hn : 0 < n) :
    ∃ g cap, v = .slice (some ⟨g, 0, none⟩) n cap ∧ base ≤ g ∧ vblk v = some g ∧ Sg w size v n xs := by
  obtain ⟨hl, h⟩ := h
  rcases h with ⟨_, h0⟩ | ⟨g, cap, cur, rfl, hb, hg, hnc, hm, hsz, htk⟩
  · omega
  · have hgl : g < w.heap.size := (Array.getElem?_eq_some_iff.1 hg).1
    refine ⟨g, cap, rfl, hb, by simp [vblk]; omega, hl, _, cap, rfl, hnc, hm, .inr ⟨g, 0, rfl, hgl, fun j hj => ?_, fun j hj => ?_⟩⟩
    · rw [Nat.zero_add]
      refine ⟨?_, by simp [World.frozen?, hg]⟩
      simp only [World.cell?, hg, Option.isSome_none, Bool.false_eq_true, if_false]
      rw [Array.getElem?_eq_getElem (by omega)]; rfl
    · rw [Nat.zero_add]
      simp only [World.cell?, hg, Option.isSome_none, Bool.false_eq_true, if_false]
      rw [← htk, List.getElem?_take_of_lt hj, Array.getElem?_toList]
theorem keeps_setCells (b : Nat) : ∀ (vs : List Value) (o : Nat) (w : World), Keeps (fun k => k = b) w (w.setCells b o vs)
  | [], _, w => Keeps.refl _ w
  | v :: r, o, w => ((Keeps.refl (fun k => k = b) w).set b o v (fun _ => rfl)).trans (keeps_setCells b r (o + 1) _) (fun _ _ h => h)

theorem run_append_sg {P : Program} (w : World) (t ty e : TypeId) (i : TypeInfo) (z : Value) (size bytes : Nat) (ht : P.underlying t = some (.slice e)) (hi : P.info? e = some i) (hz : i.zero = some z)
    (hsize : i.size = size) (hby : i.bytes = bytes) (hzs : z.cells.size = size) (hsz : 0 < size)
    (v : Value) (n : Nat) (xs : List Value) (hseg : Sg w size v n xs)
    (a : Addr) (m c : Nat) (news : List Value) (hl : news.length = m * size) (hnews : ∀ j u, news[j]? = some u → w.cell? (a.add j) = some u) (h1 : ∀ u ∈ news, u.oneCell' = true)
    (hm : 0 < m) (h63 : n + m ≤ maxLen) (hbytes : (n + m) * bytes ≤ 140737488355328) :
    ∃ g' o cap w', (Builtin.append_ #[t, t] ty #[v, .slice (some a) m c]).run P w = .ok (.slice (some ⟨g', o, none⟩) (n + m) cap) w' ∧ Sg w' size (.slice (some ⟨g', o, none⟩) (n + m) cap) (n + m) (xs ++ news) ∧
      vblk (.slice (some ⟨g', o, none⟩) (n + m) cap) = some g' ∧ (vblk v = some g' ∨ w.heap.size ≤ g') ∧ Keeps (fun k => vblk v = some k) w w' := by
  obtain ⟨hlen, ao, cap, rfl, hnc, hcm, hcase⟩ := hseg
  have fin : ∀ v' w', w'.ownsRow w.heap.size e size v' (n + m) (xs ++ news) → w.grownBy w' none → ∃ g' o cap', v' = .slice (some ⟨g', o, none⟩) (n + m) cap' ∧ Sg w' size v' (n + m) (xs ++ news) ∧ vblk v' = some g' ∧ (vblk (.slice ao n cap) = some g' ∨ w.heap.size ≤ g') ∧ Keeps (fun k => vblk (.slice ao n cap) = some k) w w' := by
    intro v' w' ho hg
    obtain ⟨g', cap', rfl, hb, hv, hs⟩ := Sg.of_own ho (by omega)
    exact ⟨g', 0, cap', rfl, hs, hv, .inr hb, ⟨hg.os, hg.tape, hg.output, hg.size, fun k hk _ => hg.block k hk (by simp)⟩⟩
  by_cases hroom : n + m ≤ cap
  · rcases hcase with h0 | ⟨g, off, rfl, hg, hsp, hxs⟩
    · omega
    · subst hsize
      have hnm : (n + m) * i.size ≤ cap * i.size := Nat.mul_le_mul_right _ hroom
      rw [Nat.add_mul] at hnm
      have hrun := run_append_room_cells (P := P) w t ty e i ht hi g off n cap a m c news hl hnews h1 hroom
        (fun j hj => by rw [Nat.add_assoc]; exact (hsp _ (by omega)).1) (fun j hj => by rw [Nat.add_assoc]; exact (hsp _ (by omega)).2)
      have hk := keeps_setCells g news (off + n * i.size) w
      have hvb : vblk (.slice (some ⟨g, off, none⟩) n cap) = some g := by simp [vblk]; omega
      refine ⟨g, off, cap, _, hrun, ⟨by rw [List.length_append, hlen, hl, Nat.add_mul], _, cap, rfl, hroom, hcm, .inr ⟨g, off, rfl, Nat.lt_of_lt_of_le hg hk.size, fun j hj => ?_, fun j hj => ?_⟩⟩, by simp [vblk]; omega, .inl hvb, hk.mono (fun k _ h => by subst h; exact hvb)⟩
      · rw [World.frozen?_setCells]
        refine ⟨?_, (hsp j hj).2⟩
        by_cases hin : n * i.size ≤ j ∧ j < n * i.size + news.length
        · have := World.cell?_setCells_in g news (off + n * i.size) w (fun j hj => by rw [Nat.add_assoc]; exact (hsp _ (by omega)).1) (j - n * i.size) (by omega)
          rw [show off + n * i.size + (j - n * i.size) = off + j from by omega] at this
          rw [this]; rfl
        · rw [World.cell?_setCells_out g news _ w _ (fun _ _ => by show off + j < _ ∨ _ ≤ off + j; omega)]
          exact (hsp j hj).1
      · rw [Nat.add_mul] at hj
        by_cases hin : j < n * i.size
        · rw [World.cell?_setCells_out g news _ w _ (fun _ _ => by show off + j < _ ∨ _ ≤ off + j; omega), hxs j hin, List.getElem?_append_left (by omega)]
        · have := World.cell?_setCells_in g news (off + n * i.size) w (fun j hj => by rw [Nat.add_assoc]; exact (hsp _ (by omega)).1) (j - n * i.size) (by omega)
          rw [show off + n * i.size + (j - n * i.size) = off + j from by omega] at this
          rw [this, List.getElem?_append_right (by omega), hlen, List.getElem?_eq_getElem]
  · rcases hcase with h0 | ⟨g, off, rfl, hg, hsp, hxs⟩
    · obtain rfl : n = 0 := by omega
      obtain rfl : xs = [] := List.eq_nil_of_length_eq_zero (by simpa using hlen)
      subst h0
      cases ao with
      | none =>
        obtain ⟨v', w', hrun, r1, r2, _⟩ := run_append_own (P := P) w w.heap.size t ty e i z size bytes ht hi hz hsize hby hzs hsz (.slice none 0 0) 0 [] (World.ownsRow_nil w _ e size) a m c news hl hnews h1 h63 hbytes (Nat.le_refl _)
        obtain ⟨g', o, cap', rfl, hh⟩ := fin v' w' r1 r2
        exact ⟨g', o, cap', w', hrun, hh⟩
      | some b =>
        obtain ⟨v', w', hrun, r1, r2⟩ := run_append_arg_grows (P := P) w t ty e i z size bytes ht hi hz hsize hby hzs hsz b 0 0 [] (by simp) (fun j u h => by simp at h) a m c news hl hnews (by omega) h63 hbytes
        obtain ⟨g', o, cap', rfl, hh⟩ := fin v' w' r1 r2
        exact ⟨g', o, cap', w', hrun, hh⟩
    · obtain ⟨v', w', hrun, r1, r2⟩ := run_append_arg_grows (P := P) w t ty e i z size bytes ht hi hz hsize hby hzs hsz ⟨g, off, none⟩ n cap xs hlen (fun j u h => by
        have hj := (List.getElem?_eq_some_iff.1 h).1
        rw [Addr.add_lit, hxs j (by omega)]; exact h) a m c news hl hnews (by omega) h63 hbytes
      obtain ⟨g', o, cap', rfl, hh⟩ := fin v' w' r1 r2
      exact ⟨g', o, cap', w', hrun, hh⟩

/-- append, as the walk meets it -/
theorem wpList_append_sg {P : Program} (w : World) {ops : Array Oper} {rest : List Oper} {o : Oper} {a : Act} {Q : Exit → Act → World → Prop}
    (hg : o.guard = none) (s x : Operand) (t : TypeId) (hop : o.op = Op.call { callee := Callee.builtin Builtin.append, args := #[s, x], argTypes := #[t, t] })
    (e : TypeId) (i : TypeInfo) (z : Value) (size bytes : Nat) (h1 : P.underlying t = some (.slice e)) (h2 : P.info? e = some i) (h3 : i.zero = some z) (h4 : i.size = size) (h5 : i.bytes = bytes) (h6 : z.cells.size = size) (h7 : 0 < size)
    (v : Value) (n : Nat) (xs : List Value) (hs : a.eval s = v) (hseg : Sg w size v n xs)
    (ad : Addr) (m c : Nat) (news : List Value) (hx : a.eval x = .slice (some ad) m c) (hn : news.length = m * size) (hc : ∀ j u, news[j]? = some u → w.cell? (ad.add j) = some u) (h1c : ∀ u ∈ news, u.oneCell' = true)
    (hm : 0 < m) (b1 : n + m ≤ maxLen) (b2 : (n + m) * bytes ≤ 140737488355328)
    (hK : ∀ g' off cap w', Sg w' size (.slice (some ⟨g', off, none⟩) (n + m) cap) (n + m) (xs ++ news) → vblk (.slice (some ⟨g', off, none⟩) (n + m) cap) = some g' → (vblk v = some g' ∨ w.heap.size ≤ g') → Keeps (fun k => vblk v = some k) w w' → wpList P ops Q rest (a.put o.dst (.slice (some ⟨g', off, none⟩) (n + m) cap)) w') :
    wpList P ops Q (o :: rest) a w := by
  refine wpList_plain hg fun K hK' => ?_
  obtain ⟨g', off, cap, w', hrun, r1, r2, r3, r4⟩ := run_append_sg (P := P) w t o.type e i z size bytes h1 h2 h3 h4 h5 h6 h7 v n xs hseg ad m c news hn hc h1c hm b1 b2
  unfold Oper.wp
  simp [execOp, hop, resolve, invoke, builtin, hs, hx, hrun, Result.andThen]
  exact hK' _ _ (hK g' off cap w' r1 r2 r3 r4)

/-- what is known of a slice that is not empty, to walk on -/
theorem Sg.open {w : World} {size : Nat} {v : Value} {n : Nat} {xs : List Value} (h : Sg w size v n xs) (hn : 0 < n) :
    ∃ g off cap, v = .slice (some ⟨g, off, none⟩) n cap ∧ n ≤ cap ∧ cap ≤ maxLen ∧ vblk v = some g ∧ g < w.heap.size ∧ (∀ j, j < n * size → w.cell? ⟨g, off + j, none⟩ = xs[j]? ∧ w.frozen? ⟨g, off + j, none⟩ = false) ∧
      Sg w size (if cap = 1 then .slice (some ⟨g, off, none⟩) (n - 1) (cap - 1) else .slice (some ⟨g, off + size, none⟩) (n - 1) (cap - 1)) (n - 1) (xs.drop size) := by
  obtain ⟨hl, ao, cap, rfl, h1, h2, h3⟩ := h
  rcases h3 with h0 | ⟨g, off, rfl, hg, hc, hx⟩
  · omega
  · have hnc : n * size ≤ cap * size := Nat.mul_le_mul_right _ h1
    refine ⟨g, off, cap, rfl, h1, h2, by simp [vblk]; omega, hg, fun j hj => ⟨hx j hj, (hc j (by omega)).2⟩, ?_⟩
    have e1 : n * size = (n - 1) * size + size := by
      obtain ⟨k, rfl⟩ : ∃ k, n = k + 1 := ⟨n - 1, by omega⟩
      rw [Nat.add_sub_cancel, Nat.add_mul, Nat.one_mul]
    have e2 : cap * size = (cap - 1) * size + size := by
      obtain ⟨k, rfl⟩ : ∃ k, cap = k + 1 := ⟨cap - 1, by omega⟩
      rw [Nat.add_sub_cancel, Nat.add_mul, Nat.one_mul]
    have hl2 : (xs.drop size).length = (n - 1) * size := by rw [List.length_drop, hl]; omega
    split
    · rename_i hc1
      exact ⟨hl2, _, _, rfl, by omega, by omega, .inl (by omega)⟩
    · refine ⟨hl2, _, _, rfl, by omega, by omega, .inr ⟨g, off + size, rfl, hg, fun j hj => ?_, fun j hj => ?_⟩⟩
      · rw [Nat.add_assoc]; exact hc _ (by omega)
      · rw [Nat.add_assoc, hx _ (by omega), List.getElem?_drop]
/-- a cell of it written -/
theorem Sg.set {w : World} {n g off cap : Nat} {xs : List Value} (h : Sg w 1 (.slice (some ⟨g, off, none⟩) n cap) n xs) (i : Nat) (hi : i < n) (u : Value) :
    Sg (w.setCell ⟨g, off + i, none⟩ u) 1 (.slice (some ⟨g, off, none⟩) n cap) n (xs.set i u) := by
  obtain ⟨hl, ao, cap', hv, h1, h2, h3⟩ := h
  simp only [Value.slice.injEq, true_and] at hv
  obtain ⟨rfl, rfl⟩ := hv
  refine ⟨by simpa using hl, _, cap, rfl, h1, h2, ?_⟩
  rcases h3 with h0 | ⟨g', off', ha, hg, hc, hx⟩
  · omega
  · simp only [Option.some.injEq, Addr.mk.injEq, and_true] at ha
    obtain ⟨rfl, rfl⟩ := ha
    have hin : (w.cell? ⟨g, off + i, none⟩).isSome = true := (hc i (by omega)).1
    refine .inr ⟨g, off, rfl, by simpa [World.setCell] using hg, fun j hj => ?_, fun j hj => ?_⟩
    · rw [World.frozen?_setCell]
      refine ⟨?_, (hc j hj).2⟩
      by_cases e : j = i
      · subst e
        obtain ⟨u0, hu⟩ := Option.isSome_iff_exists.1 hin
        rw [World.cell?_setCell_same _ _ _ hu]; rfl
      · rw [World.cell?_setCell_other _ _ _ _ (by simp)]; exact (hc j hj).1
    · by_cases e : j = i
      · subst e
        obtain ⟨u0, hu⟩ := Option.isSome_iff_exists.1 hin
        rw [World.cell?_setCell_same _ _ _ hu, List.getElem?_set_self (by omega)]
      · rw [World.cell?_setCell_other _ _ _ _ (by simp), hx j hj, List.getElem?_set_ne (by omega)]
theorem run_clear_sg {P : Program} (w : World) (t ty e : TypeId) (z : Value) (ht : P.underlying t = some (.slice e)) (hz : ∀ w, (zeroValue e).run P w = .ok z w) (hzc : z.cells = #[z]) (hz1 : z.oneCell' = true)
    (v : Value) (n : Nat) (xs : List Value) (hseg : Sg w 1 v n xs) :
    ∃ w', (Builtin.clear_ #[t] ty #[v]).run P w = .ok (.tuple #[]) w' ∧ Sg w' 1 v n (List.replicate n z) ∧ Keeps (fun k => vblk v = some k) w w' := by
  obtain ⟨hl, ao, cap, rfl, h1, h2, h3⟩ := hseg
  rcases Nat.eq_zero_or_pos n with rfl | hn
  · refine ⟨w, ?_, ⟨by simp, ao, cap, rfl, h1, h2, h3.imp id ?_⟩, Keeps.refl _ _⟩
    · cases ao <;> simp [Builtin.clear_, run_underlying ht]
    · rintro ⟨g, off, rfl, hg, hc, hx⟩
      exact ⟨g, off, rfl, hg, hc, fun j hj => by omega⟩
  · rcases h3 with h0 | ⟨g, off, rfl, hg, hc, hx⟩
    · omega
    · have ez : (Builtin.zeroCells #[z] n).toList = List.replicate n z := by
        apply List.ext_getElem?
        intro i
        rcases Nat.lt_or_ge i n with h | h
        · simp [Builtin.zeroCells, h, Nat.mod_one]
        · simp [Builtin.zeroCells, h]
      have hst := run_storeCells_cells (P := P) g off (List.replicate n z) 0 w (fun j hj => by rw [Nat.add_zero]; exact (hc j (by simp at hj; omega)).1) (fun j hj => by rw [Nat.add_zero]; exact (hc j (by simp at hj; omega)).2) (fun v hv => by rw [(List.mem_replicate.1 hv).2]; exact hz1)
      rw [Nat.add_zero] at hst
      obtain ⟨m, rfl⟩ : ∃ m, n = m + 1 := ⟨n - 1, by omega⟩
      refine ⟨w.setCells g off (List.replicate (m + 1) z), ?_, ⟨by simp, _, cap, rfl, h1, h2, .inr ⟨g, off, rfl, ?_, fun j hj => ?_, fun j hj => ?_⟩⟩, (keeps_setCells g _ off w).mono (fun k _ h => by subst h; simp [vblk]; omega)⟩
      · simp [Builtin.clear_, run_underlying ht, hz, hzc, ez, hst]
      · exact Nat.lt_of_lt_of_le hg (keeps_setCells g _ off w).size
      · rw [World.frozen?_setCells]
        refine ⟨?_, (hc j hj).2⟩
        by_cases hin : j < m + 1
        · rw [World.cell?_setCells_in g (List.replicate (m + 1) z) off w (fun j hj => (hc j (by simp at hj; omega)).1) j (by simpa using hin)]; rfl
        · rw [World.cell?_setCells_out g _ _ w _ (fun _ _ => by show off + j < _ ∨ _ ≤ off + j; simp; omega)]
          exact (hc j hj).1
      · have hin : j < m + 1 := by omega
        rw [World.cell?_setCells_in g (List.replicate (m + 1) z) off w (fun j hj => (hc j (by simp at hj; omega)).1) j (by simpa using hin)]
        simp [hin]
theorem wpList_clear_sg {P : Program} (w : World) {ops : Array Oper} {rest : List Oper} {o : Oper} {a : Act} {Q : Exit → Act → World → Prop}
    (hg : o.guard = none) (s : Operand) (t : TypeId) (hop : o.op = Op.call { callee := Callee.builtin Builtin.clear, args := #[s], argTypes := #[t] })
    (e : TypeId) (z : Value) (ht : P.underlying t = some (.slice e)) (hz : ∀ w, (zeroValue e).run P w = .ok z w) (hzc : z.cells = #[z]) (hz1 : z.oneCell' = true)
    (v : Value) (n : Nat) (xs : List Value) (hs : a.eval s = v) (hseg : Sg w 1 v n xs)
    (hK : ∀ w', Sg w' 1 v n (List.replicate n z) → Keeps (fun k => vblk v = some k) w w' → wpList P ops Q rest (a.put o.dst (.tuple #[])) w') :
    wpList P ops Q (o :: rest) a w := by
  refine wpList_plain hg fun K hK' => ?_
  obtain ⟨w', hrun, r1, r2⟩ := run_clear_sg (P := P) w t o.type e z ht hz hzc hz1 v n xs hseg
  unfold Oper.wp
  simp [execOp, hop, resolve, invoke, builtin, hs, hrun, Result.andThen]
  exact hK' _ _ (hK w' r1 r2)
end Go.Proofs.YtcbkbjpdfanjpaaGreatDoor

namespace Go.Proofs.YtcbkbjpdfanjpaaGreatDoor
open Go.RowKit

theorem run_append_any {P : Program} (w : World) (t ty e : TypeId) (i : TypeInfo) (z : Value) (size bytes : Nat) (ht : P.underlying t = some (.slice e)) (hi : P.info? e = some i) (hz : i.zero = some z)
    (hsize : i.size = size) (hby : i.bytes = bytes) (hzs : z.cells.size = size) (hsz : 0 < size)
    (v : Value) (n : Nat) (xs : List Value) (hseg : Sg w size v n xs) (u : Value) (m : Nat) (ys : List Value) (hu : Sg w size u m ys) (h1 : ∀ y ∈ ys, y.oneCell' = true)
    (h63 : n + m ≤ maxLen) (hbytes : (n + m) * bytes ≤ 140737488355328) :
    ∃ v' w', (Builtin.append_ #[t, t] ty #[v, u]).run P w = .ok v' w' ∧ Sg w' size v' (n + m) (xs ++ ys) ∧ (∀ g, vblk v' = some g → vblk v = some g ∨ w.heap.size ≤ g) ∧ Keeps (fun k => vblk v = some k) w w' := by
  rcases Nat.eq_zero_or_pos m with rfl | hm
  · obtain ⟨hyl, bo, bc, rfl, -, -, -⟩ := hu
    obtain rfl : ys = [] := List.eq_nil_of_length_eq_zero (by simpa using hyl)
    have hv := hseg
    obtain ⟨hl, ao, cap, rfl, hnc, hcm, -⟩ := hseg
    refine ⟨.slice ao n cap, w, ?_, by simpa using hv, fun g h => .inl h, Keeps.refl _ _⟩
    cases ao <;> cases bo <;> simp [Builtin.append_, run_underlying ht, sizeOf, typeInfo, hi, Builtin.lenOf, Builtin.firstCells, hnc, storeCells, loadCells, loadCellsFrom]
  · obtain ⟨g, off, cap, rfl, -, -, -, hgl, hc, -⟩ := hu.open hm
    obtain ⟨g', o, cap', w', hrun, hs, hv, hg, hk⟩ := run_append_sg (P := P) w t ty e i z size bytes ht hi hz hsize hby hzs hsz v n xs hseg ⟨g, off, none⟩ m cap ys hu.len
      (fun j y hj => by
        have hl := (List.getElem?_eq_some_iff.1 hj).1
        rw [hu.len] at hl
        rw [Addr.add_lit, (hc j hl).1]; exact hj) h1 hm h63 hbytes
    exact ⟨_, w', hrun, hs, fun g hg' => by rw [hv] at hg'; obtain rfl := Option.some.inj hg'; exact hg, hk⟩

/-- append, as the walk meets it -/
theorem wpList_append_any {P : Program} (w : World) {ops : Array Oper} {rest : List Oper} {o : Oper} {a : Act} {Q : Exit → Act → World → Prop}
    (hg : o.guard = none) (s x : Operand) (t : TypeId) (hop : o.op = Op.call { callee := Callee.builtin Builtin.append, args := #[s, x], argTypes := #[t, t] })
    (e : TypeId) (i : TypeInfo) (z : Value) (size bytes : Nat) (h1 : P.underlying t = some (.slice e)) (h2 : P.info? e = some i) (h3 : i.zero = some z) (h4 : i.size = size) (h5 : i.bytes = bytes) (h6 : z.cells.size = size) (h7 : 0 < size)
    (v : Value) (n : Nat) (xs : List Value) (hs : a.eval s = v) (hseg : Sg w size v n xs) (u : Value) (m : Nat) (ys : List Value) (hx : a.eval x = u) (hu : Sg w size u m ys) (h1c : ∀ y ∈ ys, y.oneCell' = true)
    (b1 : n + m ≤ maxLen) (b2 : (n + m) * bytes ≤ 140737488355328)
    (hK : ∀ v' w', Sg w' size v' (n + m) (xs ++ ys) → (∀ g, vblk v' = some g → vblk v = some g ∨ w.heap.size ≤ g) → Keeps (fun k => vblk v = some k) w w' → wpList P ops Q rest (a.put o.dst v') w') :
    wpList P ops Q (o :: rest) a w := by
  refine wpList_plain hg fun K hK' => ?_
  obtain ⟨v', w', hrun, r1, r2, r3⟩ := run_append_any (P := P) w t o.type e i z size bytes h1 h2 h3 h4 h5 h6 h7 v n xs hseg u m ys hu h1c b1 b2
  unfold Oper.wp
  simp [execOp, hop, resolve, invoke, builtin, hs, hx, hrun, Result.andThen]
  exact hK' _ _ (hK v' w' r1 r2 r3)
end Go.Proofs.YtcbkbjpdfanjpaaGreatDoor
