/-
SpeakParts: the argument and the laid variables, opened.
-/
import Derived.Deep.Slices
import Derived.Stop.LaidErr
import Derived.Test.YtcbkbjpdfanjpaaGreatDoorPk43
import Derived.Test.YtcbkbjpdfanjpaaGreatDoorPk46
namespace Go.Proofs.YtcbkbjpdfanjpaaGreatDoor
open Go.RowKit Go.ChangeShapes Go.WideShapes Go.ChangeMaps Go.Deep HelP
set_option maxRecDepth 100000
namespace Sp
open Pt
open Mg (FV NN uv bv tR tM zM)
open Spl (sv)
section
variable {H : Type} {enc : TypeId × Value → H} {w : World} {base : Nat} {sp' : Nat → Bool} {held : Bool}
theorem fld {t T : TypeId} {fs : Array Field} {fuel off m : Nat} {cs : List Value} {x : DataW H × List MemPlace} {f : Field} (ht : Tryz.prog.underlying t = some (.struct fs)) (h : DataW.trod enc Tryz.prog w base sp' held fuel t cs = some x) (i : Nat) (hi : fs[i]? = some f)
    (hT : f.type = T) (ho : f.offset = off) (hm : Tryz.prog.cellsOf T = m) : ∃ n y, DataW.trod enc Tryz.prog w base sp' held n T ((cs.drop off).take m) = some y := by
  obtain ⟨xs, n, _, rfl, hl, hlen, hf⟩ := DataW.trod_struct ht h
  have hil : i < fs.size := (Array.getElem?_eq_some_iff.1 hi).1
  have h1 := hf i f hi
  rw [List.getElem?_eq_getElem (by omega), hT, ho, hm] at h1
  exact ⟨n, _, h1⟩
theorem key_of {fuel : Nat} {cs : List Value} {y : DataW H × List MemPlace} (hl : cs.length = 32) (hf : DataW.trod enc Tryz.prog w base sp' held fuel 23 cs = some y) : ∃ l : S, cs = byv l ∧ l.length = 32 := by
  have ht := Tryz.underlying23
  have hc : Tryz.prog.cellsOf 5 = 1 := by kernel_rfl
  have hct : Tryz.prog.cellsOf 23 = 32 := by kernel_rfl
  have hall : ∀ i, i < cs.length → ∃ b : UInt8, cs[i]? = some (Value.int .u8 (b.toNat : Nat)) := by
    intro i hi
    cases fuel with
    | zero => simp [DataW.trod] at hf
    | succ fuel =>
      simp only [DataW.trod, ht, hc, hct, Nat.mul_one, hl, if_true] at hf
      · obtain ⟨ys, hm, hx⟩ := Option.map_eq_some_iff.1 hf
        obtain ⟨b, hb, hfi⟩ := Lib.mapM_at hm i i (by rw [List.getElem?_range (by omega)])
        obtain ⟨z, hcz, rfl, hwf⟩ := DataW.trod_int Tryz.underlying5 hfi
        have h1 : cs[i]? = some (.int .u8 z) := by
          have := congrArg (·[0]?) hcz
          simpa [List.getElem?_take, List.getElem?_drop] using this
        obtain ⟨m, rfl, hm2⟩ : ∃ m : Nat, z = (m : Int) ∧ m < 256 := by
          have hr : IntKind.u8.min ≤ z ∧ z ≤ IntKind.u8.max := by simpa [Lit.wf] using hwf
          have hr : 0 ≤ z ∧ z ≤ 255 := hr
          exact ⟨z.toNat, by omega, by omega⟩
        exact ⟨UInt8.ofNat m, by rw [h1]; simp [Nat.mod_eq_of_lt hm2]⟩
  obtain ⟨l, h⟩ := list_of_each (fun b : UInt8 => Value.int .u8 (b.toNat : Nat)) cs hall
  refine ⟨l, h, ?_⟩
  rw [← hl, h, List.length_map]
/-- a slice of elements of one cell each -/
theorem rs_of {t e : TypeId} {fuel : Nat} {v : Value} {x : DataW H × List MemPlace} (ht : Tryz.prog.underlying t = some (.slice e)) (hC : Tryz.prog.cellsOf e = 1) (h : DataW.trod enc Tryz.prog w base sp' held fuel t [v] = some x) :
    ∃ (a : Option Addr) (n c : Nat) (xs : List Value), v = .slice a n c ∧ Rs (fun _ => False) w a n c xs ∧ ∀ (i : Nat) (z : Value), xs[i]? = some z → ∃ f y, DataW.trod enc Tryz.prog w base sp' held f e [z] = some y := by
  rcases open_slice ht h with ⟨hcs, hx⟩ | ⟨a, len, cap, m, n, D, Pl, hcs, hb, hl, hm, hz, hx, hel⟩
  · simp only [List.cons.injEq, and_true] at hcs
    exact ⟨none, 0, 0, [], hcs, Rs.nil _ _ _ _, fun i z hz => by cases hz⟩
  · simp only [List.cons.injEq, and_true] at hcs
    have hlm : len ≤ m := by rw [hz]; split <;> omega
    have one : ∀ i, i < len → ∃ z, w.cell? (a.add i) = some z ∧ DataW.trod enc Tryz.prog w base sp' held n e [z] = some (D i, Pl i) := fun i hi => by
      obtain ⟨cs', hc, htr⟩ := hel i (by omega)
      rw [hC, Nat.mul_one] at hc
      obtain ⟨_, hcl, hat⟩ := World.cells?_some hc
      match cs', hcl with
      | [z], _ =>
        have := hat 0 (by decide)
        rw [Addr.add_zero'] at this
        exact ⟨z, this, htr⟩
    rcases Nat.eq_zero_or_pos len with h0 | h0
    · subst h0
      exact ⟨some a, 0, cap, [], hcs, Rs.nil _ _ _ _, fun i z hz => by cases hz⟩
    · obtain ⟨z0, hz0, _⟩ := one 0 h0
      rw [Addr.add_zero'] at hz0
      have hlt := cell_lt hz0
      obtain ⟨b, off, s⟩ := a
      have hs : s = none := hlt.2
      subst hs
      refine ⟨_, len, cap, (List.range len).map (fun i => (w.cell? ⟨b, off + i, none⟩).getD undef), hcs, ⟨by simp, hl, .inr ⟨b, off, rfl, hlt.1, fun e => e, fun j z hj => ?_⟩⟩, fun i z hz => ?_⟩
      · have hjl : j < len := by have := (List.getElem?_eq_some_iff.1 hj).1; simpa using this
        obtain ⟨z1, hz1, _⟩ := one j hjl
        rw [Addr.add_lit] at hz1
        rw [List.getElem?_map, List.getElem?_range hjl] at hj
        simp only [Option.map_some, hz1, Option.getD_some] at hj
        rw [hz1, hj]
      · have hjl : i < len := by have := (List.getElem?_eq_some_iff.1 hz).1; simpa using this
        obtain ⟨z1, hz1, h2⟩ := one i hjl
        rw [Addr.add_lit] at hz1
        rw [List.getElem?_map, List.getElem?_range hjl] at hz
        simp only [Option.map_some, hz1, Option.getD_some] at hz
        obtain rfl := Option.some.inj hz
        exact ⟨n, _, h2⟩
theorem at_of {α : Type} {l : List α} {i : Nat} (h : i < l.length) : ∃ x, l[i]? = some x := ⟨_, List.getElem?_eq_getElem h⟩
theorem u32s_of {fuel : Nat} {v : Value} {x : DataW H × List MemPlace} (h : DataW.trod enc Tryz.prog w base sp' held fuel 41 [v] = some x) :
    ∃ a n c u, v = .slice a n c ∧ Rs (fun _ => False) w a n c (Mg.uv u) ∧ ∀ x ∈ u, x < 4294967296 := by
  obtain ⟨a, n, c, xs, rfl, hr, hx⟩ := rs_of Tryz.underlying41 (by kernel_rfl) h
  have one : ∀ i, i < xs.length → ∃ m : Nat, xs[i]? = some (.int .u32 (m : Nat)) ∧ m < 4294967296 := fun i hi => by
    obtain ⟨z, hz⟩ := at_of hi
    obtain ⟨f, y, hy⟩ := hx i z hz
    obtain ⟨k, hk, _, hw⟩ := DataW.trod_int Tryz.underlying75 hy
    simp only [List.cons.injEq, and_true] at hk
    have hb := bounds_u32 hw
    refine ⟨k.toNat, ?_, by omega⟩
    rw [hz, hk, show ((k.toNat : Nat) : Int) = k by omega]
  obtain ⟨u, hu⟩ := list_of_each (fun m : Nat => Value.int .u32 (m : Nat)) xs (fun i hi => let ⟨m, h, _⟩ := one i hi; ⟨m, h⟩)
  refine ⟨a, n, c, u, rfl, by show Rs _ _ _ _ _ (u.map _); rw [← hu]; exact hr, fun x hx' => ?_⟩
  obtain ⟨i, hi, rfl⟩ := List.getElem_of_mem hx'
  obtain ⟨m, hm, hm2⟩ := one i (by rw [hu, List.length_map]; exact hi)
  rw [hu, List.getElem?_map, List.getElem?_eq_getElem hi] at hm
  simp only [Option.map_some, Option.some.injEq, Value.int.injEq, true_and] at hm
  omega
theorem strs_of {fuel : Nat} {v : Value} {x : DataW H × List MemPlace} (h : DataW.trod enc Tryz.prog w base sp' held fuel 42 [v] = some x) :
    ∃ a n c s, v = .slice a n c ∧ Rs (fun _ => False) w a n c (sv s) := by
  obtain ⟨a, n, c, xs, rfl, hr, hx⟩ := rs_of Tryz.underlying42 (by kernel_rfl) h
  obtain ⟨u, hu⟩ := list_of_each (fun l : S => Value.string (by8 l)) xs (fun i hi => by
    obtain ⟨z, hz⟩ := at_of hi
    obtain ⟨f, y, hy⟩ := hx i z hz
    obtain ⟨k, hk, _, hw⟩ := DataW.trod_string Tryz.underlying9 hy
    simp only [List.cons.injEq, and_true] at hk
    exact ⟨k.data.toList, by rw [hz, hk]; exact congrArg (fun s => some (Value.string s)) (bs_of k).symm⟩)
  exact ⟨a, n, c, u, rfl, by show Rs _ _ _ _ _ (u.map _); rw [← hu]; exact hr⟩
theorem bools_of {fuel : Nat} {v : Value} {x : DataW H × List MemPlace} (h : DataW.trod enc Tryz.prog w base sp' held fuel 44 [v] = some x) :
    ∃ a n c s, v = .slice a n c ∧ Rs (fun _ => False) w a n c (bv s) := by
  obtain ⟨a, n, c, xs, rfl, hr, hx⟩ := rs_of Tryz.underlying44 (by kernel_rfl) h
  obtain ⟨u, hu⟩ := list_of_each Value.bool xs (fun i hi => by
    obtain ⟨z, hz⟩ := at_of hi
    obtain ⟨f, y, hy⟩ := hx i z hz
    obtain ⟨k, hk, _⟩ := DataW.trod_bool Tryz.underlying4 hy
    simp only [List.cons.injEq, and_true] at hk
    exact ⟨k, by rw [hz, hk]⟩)
  exact ⟨a, n, c, u, rfl, by show Rs _ _ _ _ _ (u.map _); rw [← hu]; exact hr⟩
theorem rel_list {α β : Type} (R : α → β → Prop) : ∀ (L : List α), (∀ (i : Nat) (x : α), L[i]? = some x → ∃ y, R x y) → ∃ M : List β, L.length = M.length ∧ ∀ (i : Nat) (x : α) (y : β), L[i]? = some x → M[i]? = some y → R x y
  | [], _ => ⟨[], rfl, fun i x y h => by cases h⟩
  | a :: L, h => by
    obtain ⟨y, hy⟩ := h 0 a rfl
    obtain ⟨M, hl, hM⟩ := rel_list R L (fun i x hx => h (i + 1) x (by simpa using hx))
    refine ⟨y :: M, by rw [List.length_cons, List.length_cons, hl], fun i x z hx hz => ?_⟩
    cases i with
    | zero =>
      obtain rfl := Option.some.inj hx
      obtain rfl := Option.some.inj hz
      exact hy
    | succ i => exact hM i x z (by simpa using hx) (by simpa using hz)
theorem names_of {fuel : Nat} {v : Value} {x : DataW H × List MemPlace} (h : DataW.trod enc Tryz.prog w base sp' held fuel 43 [v] = some x) :
    ∃ a n c s, v = .slice a n c ∧ NN (fun _ => False) w a n c s := by
  obtain ⟨a, n, c, xs, rfl, hr, hx⟩ := rs_of Tryz.underlying43 (by kernel_rfl) h
  obtain ⟨M, hl, hM⟩ := rel_list (fun (x : Value) (l : List S) => ∃ a' k' c', x = Value.slice a' k' c' ∧ Rs (fun _ => False) w a' k' c' (sv l)) xs (fun i z hz => by
    obtain ⟨f, y, hy⟩ := hx i z hz
    obtain ⟨a', k', c', s, e, h'⟩ := strs_of hy
    exact ⟨s, a', k', c', e, h'⟩)
  exact ⟨a, n, c, M, rfl, xs, hr, hl, hM⟩
end
/-- one message that came in -/
theorem msg_of {H : Type} {enc : TypeId × Value → H} {w : World} {base : Nat} {sp' : Nat → Bool} {held : Bool} {fuel : Nat} {cs : List Value} {x : DataW H × List MemPlace} (hl : cs.length = 5) (h : DataW.trod enc Tryz.prog w base sp' held fuel 46 cs = some x) :
    ∃ (k : Int) (u : List Nat) (s : List S) (ns : List (List S)) (bs : List Bool) (au aq an ab : Option Addr) (nu cu nq cq nn cn nb cb : Nat), cs = [.int .i64 k, .slice au nu cu, .slice aq nq cq, .slice an nn cn, .slice ab nb cb] ∧ FV (fun _ => False) w u s ns bs au aq an ab nu cu nq cq nn cn nb cb ∧ ∀ x ∈ u, x < 4294967296 := by
  match cs, hl with
  | [v0, v1, v2, v3, v4], _ =>
    obtain ⟨n0, y0, h0⟩ := fld Tryz.underlying46 h 0 rfl rfl rfl (show Tryz.prog.cellsOf 3 = 1 by kernel_rfl)
    obtain ⟨n1, y1, h1⟩ := fld Tryz.underlying46 h 1 rfl rfl rfl (show Tryz.prog.cellsOf 41 = 1 by kernel_rfl)
    obtain ⟨n2, y2, h2⟩ := fld Tryz.underlying46 h 2 rfl rfl rfl (show Tryz.prog.cellsOf 42 = 1 by kernel_rfl)
    obtain ⟨n3, y3, h3⟩ := fld Tryz.underlying46 h 3 rfl rfl rfl (show Tryz.prog.cellsOf 43 = 1 by kernel_rfl)
    obtain ⟨n4, y4, h4⟩ := fld Tryz.underlying46 h 4 rfl rfl rfl (show Tryz.prog.cellsOf 44 = 1 by kernel_rfl)
    have h0 : DataW.trod enc Tryz.prog w base sp' held n0 3 [v0] = some y0 := h0
    have h1 : DataW.trod enc Tryz.prog w base sp' held n1 41 [v1] = some y1 := h1
    have h2 : DataW.trod enc Tryz.prog w base sp' held n2 42 [v2] = some y2 := h2
    have h3 : DataW.trod enc Tryz.prog w base sp' held n3 43 [v3] = some y3 := h3
    have h4 : DataW.trod enc Tryz.prog w base sp' held n4 44 [v4] = some y4 := h4
    obtain ⟨k, e0, _, _⟩ := DataW.trod_int Tryz.underlying3 h0
    simp only [List.cons.injEq, and_true] at e0
    subst e0
    obtain ⟨au, nu, cu, u, rfl, r1, r1'⟩ := u32s_of h1
    obtain ⟨aq, nq, cq, s, rfl, r2⟩ := strs_of h2
    obtain ⟨an, nn, cn, ns, rfl, r3⟩ := names_of h3
    obtain ⟨ab, nb, cb, bs, rfl, r4⟩ := bools_of h4
    exact ⟨k, u, s, ns, bs, au, aq, an, ab, nu, cu, nq, cq, nn, cn, nb, cb, rfl, ⟨r1, r2, r3, r4⟩, r1'⟩
theorem msgs_of {H : Type} {enc : TypeId × Value → H} {w : World} {base : Nat} {sp' : Nat → Bool} {held : Bool} {fuel : Nat} {v : Value} {x : DataW H × List MemPlace} (h : DataW.trod enc Tryz.prog w base sp' held fuel 22 [v] = some x) : ∃ a n c, v = .slice a n c ∧ MsgsAt w a n := by
  have hC : Tryz.prog.cellsOf 46 = 5 := by kernel_rfl
  rcases open_slice Tryz.underlying22 h with ⟨hcs, hx⟩ | ⟨a, len, cap, m, n, D, Pl, hcs, hb, hl, hm, hz, hx, hel⟩
  · simp only [List.cons.injEq, and_true] at hcs
    exact ⟨none, 0, 0, hcs, fun i hi => absurd hi (Nat.not_lt_zero _)⟩
  · simp only [List.cons.injEq, and_true] at hcs
    have hlm : len ≤ m := by rw [hz]; split <;> omega
    refine ⟨some a, len, cap, hcs, fun i hi => ?_⟩
    obtain ⟨cs', hc, htr⟩ := hel i (by omega)
    rw [hC] at hc
    obtain ⟨_, hcl, hat⟩ := World.cells?_some hc
    obtain ⟨cs0, hc0, -⟩ := hel 0 (by omega)
    rw [Nat.zero_mul, Addr.add_zero', hC] at hc0
    obtain ⟨_, hcl0, hat0⟩ := World.cells?_some hc0
    have h0 := hat0 0 (by decide)
    rw [List.getElem?_eq_getElem (by omega), Addr.add_zero'] at h0
    have hlt := cell_lt h0
    obtain ⟨b, off, s⟩ := a
    have hs : s = none := hlt.2
    subst hs
    obtain ⟨k, u, s, ns, bs, au, aq, an, ab, nu, cu, nq, cq, nn, cn, nb, cb, rfl, hv, hu⟩ := msg_of hcl htr
    refine ⟨b, off, rfl, hlt.1, k, u, s, ns, bs, au, aq, an, ab, nu, cu, nq, cq, nn, cn, nb, cb, fun j v hj => ?_, hv, hu⟩
    have hj5 : j < 5 := (List.getElem?_eq_some_iff.1 hj).1
    have := hat j hj5
    rw [Addr.add_lit, Addr.add_lit] at this
    rw [this]; exact hj
theorem cuts_of {H : Type} {enc : TypeId × Value → H} {w : World} {base : Nat} {sp' : Nat → Bool} {held : Bool} {fuel : Nat} {v : Value} {x : DataW H × List MemPlace} (h : DataW.trod enc Tryz.prog w base sp' held fuel 24 [v] = some x) : ∃ a n c, v = .slice a n c ∧ CutsAt w a n := by
  obtain ⟨a, n, c, xs, rfl, hr, hx⟩ := rs_of Tryz.underlying24 (by kernel_rfl) h
  refine ⟨a, n, c, rfl, fun i hi => ?_⟩
  obtain ⟨z, hz⟩ := at_of (l := xs) (i := i) (by rw [hr.len]; exact hi)
  obtain ⟨f, y, hy⟩ := hx i z hz
  obtain ⟨k, hk, _, _⟩ := DataW.trod_int Tryz.underlying3 hy
  simp only [List.cons.injEq, and_true] at hk
  subst hk
  obtain ⟨g, off, e, hg, _, _, hc⟩ := hr.at hz
  exact ⟨g, off, k, e, hc, hg⟩
theorem open_talk {H : Type} {enc : TypeId × Value → H} {w : World} {r : Reach} {b0 base : Nat} {sp' : Nat → Bool} {held : Bool} {v : Value} {d : DataW H} {ps : List MemPlace}
    (hv : Value.okWide Tryz.prog w r b0 26 v) (h : DataW.Trod enc Tryz.prog w base sp' held 26 v d ps) :
    ∃ (al : Option Addr) (nl cl : Nat) (key : S) (K : Int) (ac : Option Addr) (nc cc : Nat), v = .agg (tlk al nl cl key K ac nc cc).toArray ∧ key.length = 32 ∧ MsgsAt w al nl ∧ CutsAt w ac nc := by
  obtain ⟨cs, rfl, hsz⟩ := okWide_struct Tryz.underlying26 hv
  have hsz : cs.size = 35 := hsz.trans (by kernel_rfl)
  obtain ⟨fuel, hf⟩ := h
  have hcl : cs.toList.length = 35 := by rw [Array.length_toList]; exact hsz
  have hf : DataW.trod enc Tryz.prog w base sp' held fuel 26 cs.toList = some (d, ps) := hf
  obtain ⟨n0, y0, h0⟩ := fld Tryz.underlying26 hf 0 rfl rfl rfl (show Tryz.prog.cellsOf 22 = 1 by kernel_rfl)
  obtain ⟨n1, y1, h1⟩ := fld Tryz.underlying26 hf 1 rfl rfl rfl (show Tryz.prog.cellsOf 23 = 32 by kernel_rfl)
  obtain ⟨n2, y2, h2⟩ := fld Tryz.underlying26 hf 2 rfl rfl rfl (show Tryz.prog.cellsOf 3 = 1 by kernel_rfl)
  obtain ⟨n3, y3, h3⟩ := fld Tryz.underlying26 hf 3 rfl rfl rfl (show Tryz.prog.cellsOf 24 = 1 by kernel_rfl)
  obtain ⟨L, hL⟩ : ∃ L, L = cs.toList := ⟨_, rfl⟩
  rw [← hL] at h0 h1 h2 h3 hcl
  have h0 : DataW.trod enc Tryz.prog w base sp' held n0 22 ((L.drop 0).take 1) = some y0 := h0
  have h1 : DataW.trod enc Tryz.prog w base sp' held n1 23 ((L.drop 1).take 32) = some y1 := h1
  have h2 : DataW.trod enc Tryz.prog w base sp' held n2 3 ((L.drop 33).take 1) = some y2 := h2
  have h3 : DataW.trod enc Tryz.prog w base sp' held n3 24 ((L.drop 34).take 1) = some y3 := h3
  have one : ∀ k, k < 35 → ∃ z, (L.drop k).take 1 = [z] := fun k hk => by
    rw [List.drop_eq_getElem_cons (by omega)]
    exact ⟨_, rfl⟩
  obtain ⟨z0, e0⟩ := one 0 (by decide)
  obtain ⟨z2, e2⟩ := one 33 (by decide)
  obtain ⟨z3, e3⟩ := one 34 (by decide)
  rw [e0] at h0
  rw [e2] at h2
  rw [e3] at h3
  obtain ⟨al, nl, cl, rfl, hm⟩ := msgs_of h0
  obtain ⟨key, ek, hk⟩ := key_of (by rw [List.length_take, List.length_drop]; omega) h1
  obtain ⟨K, eK, _, _⟩ := DataW.trod_int Tryz.underlying3 h2
  obtain ⟨ac, nc, cc, rfl, hcu⟩ := cuts_of h3
  refine ⟨al, nl, cl, key, K, ac, nc, cc, ?_, hk, hm, hcu⟩
  congr 1
  apply Array.ext'
  rw [← hL]
  have p1 : L = (L.drop 0).take 1 ++ L.drop 1 := by rw [List.drop_zero]; exact (List.take_append_drop 1 L).symm
  have p2 : L.drop 1 = (L.drop 1).take 32 ++ L.drop 33 := by
    have := (List.take_append_drop 32 (L.drop 1)).symm
    rw [List.drop_drop] at this
    exact this
  have p3 : L.drop 33 = (L.drop 33).take 1 ++ L.drop 34 := by
    have := (List.take_append_drop 1 (L.drop 33)).symm
    rw [List.drop_drop] at this
    exact this
  have p4 : L.drop 34 = (L.drop 34).take 1 := (List.take_of_length_le (by rw [List.length_drop, hcl]; decide)).symm
  rw [p1, p2, p3, p4, e0, ek, e2, eK, e3]
  show _ = [Value.slice al nl cl] ++ byv key ++ [Value.int .i64 K, Value.slice ac nc cc]
  simp
/-- the table of messages -/
def laidL : List (DataW Unit) := match (Rows.laid_speakeasy_message_rows : DataW Unit) with
  | .agg l => l
  | _ => []
theorem laid_agg : (Rows.laid_speakeasy_message_rows : DataW Unit) = .agg laidL := rfl
theorem rowT_map : Mg.rowT = laidL.map Mg.rdRow := rfl
theorem row_of {w : World} {base : Nat} {sp' : Nat → Bool} {held : Bool} {fuel : Nat} {cs : List Value} {d : DataW Unit} {p : List MemPlace} {enc : TypeId × Value → Unit} (h : DataW.trod enc Tryz.prog w base sp' held fuel 117 cs = some (d, p)) : cs = Mg.rowV (Mg.rdRow d) := by
  obtain ⟨xs, n, _, hx, hl, hlen, hf⟩ := DataW.trod_struct Tryz.underlying117 h
  have hl : cs.length = 3 := hl.trans (by kernel_rfl)
  have c0 : Tryz.prog.cellsOf 3 = 1 := by kernel_rfl
  have c1 : Tryz.prog.cellsOf 9 = 1 := by kernel_rfl
  obtain ⟨y0, y1, y2, rfl⟩ : ∃ y0 y1 y2, xs = [y0, y1, y2] := by
    match xs, (show xs.length = 3 from hlen) with
    | [y0, y1, y2], _ => exact ⟨y0, y1, y2, rfl⟩
  have h0 : DataW.trod enc Tryz.prog w base sp' held n 3 ((cs.drop 0).take (Tryz.prog.cellsOf 3)) = some y0 := hf 0 _ rfl
  have h1 : DataW.trod enc Tryz.prog w base sp' held n 9 ((cs.drop 1).take (Tryz.prog.cellsOf 9)) = some y1 := hf 1 _ rfl
  have h2 : DataW.trod enc Tryz.prog w base sp' held n 9 ((cs.drop 2).take (Tryz.prog.cellsOf 9)) = some y2 := hf 2 _ rfl
  rw [c0] at h0
  rw [c1] at h1 h2
  match cs, hl with
  | [v0, v1, v2], _ =>
    have h0 : DataW.trod enc Tryz.prog w base sp' held n 3 [v0] = some y0 := h0
    have h1 : DataW.trod enc Tryz.prog w base sp' held n 9 [v1] = some y1 := h1
    have h2 : DataW.trod enc Tryz.prog w base sp' held n 9 [v2] = some y2 := h2
    obtain ⟨k, e0, rfl, _⟩ := DataW.trod_int Tryz.underlying3 h0
    obtain ⟨s1, e1, rfl, _⟩ := DataW.trod_string Tryz.underlying9 h1
    obtain ⟨s2, e2, rfl, _⟩ := DataW.trod_string Tryz.underlying9 h2
    obtain rfl := (Prod.mk.inj hx).1
    simp only [List.cons.injEq, and_true] at e0 e1 e2
    subst e0; subst e1; subst e2
    show _ = [Value.int .i64 k, Value.string (bs s1.data.toList), Value.string (bs s2.data.toList)]
    rw [bs_of, bs_of]
theorem rows_of {W : World} {rest : List (String × DataW Unit)} (h : LV (("speakeasy/message.rows", Rows.laid_speakeasy_message_rows) :: rest) W) : Mg.RowsAt W := by
  obtain ⟨ps, g', t', cs, fuel, p, q, hg', ht', hvar, hd, _, _⟩ := h
  obtain rfl := Option.some.inj ((show Tryz.prog.globalNamed "speakeasy/message.rows" = some 6 by kernel_rfl).symm.trans hg')
  obtain rfl := Option.some.inj ((show (Tryz.prog.globals[6]?).map (·.type) = some 140 by kernel_rfl).symm.trans ht')
  have hcell : ∀ j, W.cell? ⟨6, j, none⟩ = cs[j]? := fun j => World.var?_cell (by kernel_rfl) hvar j
  have ht := Tryz.underlying140
  have hce : Tryz.prog.cellsOf 117 = 3 := by kernel_rfl
  have hct : Tryz.prog.cellsOf 140 = 87 := by kernel_rfl
  have hLL : laidL.length = 29 := by kernel_rfl
  rw [laid_agg] at hd
  have hrow : ∀ i, i < 29 → ∃ r, Mg.rowT[i]? = some r ∧ (cs.toList.drop (i * 3)).take 3 = Mg.rowV r := fun i hi => by
    cases fuel with
    | zero => simp [DataW.trod] at hd
    | succ fuel =>
      simp only [DataW.trod, ht, hce, hct] at hd
      split at hd
      · obtain ⟨xs, hm, hx⟩ := Option.map_eq_some_iff.1 hd
        have hxs : xs.map (·.1) = laidL := by
          have := congrArg Prod.fst hx
          simpa using this
        obtain ⟨b, hb, hf⟩ := Lib.mapM_at hm i i (by rw [List.getElem?_range (by omega)])
        have h2 : laidL[i]? = some b.1 := by rw [← hxs, List.getElem?_map, hb]; rfl
        refine ⟨Mg.rdRow b.1, by rw [rowT_map, List.getElem?_map, h2]; rfl, ?_⟩
        obtain ⟨b1, b2⟩ := b
        exact row_of hf
      · cases hd
  have all : ∀ j, j < 87 → W.cell? ⟨6, j, none⟩ = (Mg.rowC Mg.rowT)[j]? := fun j hj => by
    have hi : j / 3 < 29 := by omega
    have e : j / 3 * 3 + j % 3 = j := by omega
    obtain ⟨r, hr, hrq⟩ := hrow (j / 3) hi
    have h2 := Mg.rowC_at Mg.rowT (j / 3) r hr
    have h3 : j % 3 < 3 := by omega
    have h4 := congrArg (·[j % 3]?) (hrq.trans h2.symm)
    simp only [List.getElem?_take_of_lt h3, List.getElem?_drop, e] at h4
    rw [hcell, ← h4, Array.getElem?_toList]
  have hl : (Mg.rowC Mg.rowT).length = 87 := by kernel_rfl
  refine ⟨fun j v hj => ?_, cell_lt' ((all 0 (by decide)).trans (List.getElem?_eq_getElem (by omega)))⟩
  rw [Nat.zero_add]
  have hj4 : j < 87 := by rw [← hl]; exact (List.getElem?_eq_some_iff.1 hj).1
  rw [all j hj4, hj]
end Sp
end Go.Proofs.YtcbkbjpdfanjpaaGreatDoor
