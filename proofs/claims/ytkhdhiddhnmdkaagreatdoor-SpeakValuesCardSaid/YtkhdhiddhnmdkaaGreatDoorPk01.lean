/-
Common small lemmas for the walks of this seat: a region whose operations only read, but for a forced tail; worlds up to draws; the frame of a law's row.
A row of the call's own, full: its block known whole.
A slice of the call's own that is appended to and cut at its front, its block told by the value itself: what is known of it, and append's law, clear's law.
append of whatever slice, empty or not: what the result holds, and in which block.
-/
import Derived.WalkKit
import Derived.WalkSpells
import Derived.WalkLawsBesides
import Derived.BigQuiet
import Derived.Deep.QuietTactic
import Derived.StillTailTactics
import Derived.RegionTactic
import Derived.Lib.Hide
import Derived.ProofKit
import Derived.Carry
import Derived.LaidMore
import Derived.OpenShut
import Derived.Stop.Joined
import Derived.OpenVars
import Derived.OwnWalk
import Derived.ArgAppend
namespace Go.Proofs.YtkhdhiddhnmdkaaGreatDoor
open Go.RowKit Go.ChangeShapes Go.WideShapes

theorem still_tail {P : Program} {id : Nat} {Q : Exit → Act → World → Prop} {a : Act} {w : World} {l : List Oper} (n : Nat) (hm : P.follows .mixedOrders = true) (hB : Region.lexTailB .any l.toArray n = true)
    (h : wpStill P l.toArray w.drew (fun a' => wpList P l.toArray Q (l.drop n) a' w.drew) (l.take n) a) : (Code.region id l.toArray true).wp P Q a w :=
  wp_region_still_tail n hm hB h

theorem ret_int {k : IntKind} {a b : Int} (h : a = b) : Ending.returned (.int k a) = .returned (.int k b) := by rw [h]
theorem ret_bool {a b : Bool} (h : a = b) : Ending.returned (.bool a) = .returned (.bool b) := by rw [h]
theorem ret_str {a b : ByteArray} (h : a = b) : Ending.returned (.string a) = .returned (.string b) := by rw [h]

section
variable {H : Type} {enc : TypeId × Value → H} {P : Program}
theorem post_of_below {f : Func} {s : ChangeSpec} {apart fresh handsOn again : Bool} {W W' : World} {args : Array Value} {v : Value} {ds gs : List (DataW H)} {before pa pv : List MemPlace}
    (hW : DataW.Whole enc P f.params.toList s.vars apart W args.toList ds gs before)
    (hres : ∀ (b : Nat) (sp : Nat → Bool) (hd : Bool), DataW.TrodAll enc P W' b sp hd f.resultTypes.toList (v.resultList f.resultTypes.size) (s.fn H (ds ++ gs)).results [])
    (hargs : ∀ sp : Nat → Bool, (∀ p ∈ before, sp p.block = true) → DataW.TrodAll enc P W' 0 sp true f.params.toList args.toList (s.fn H (ds ++ gs)).args pa)
    (hvars : ∀ sp : Nat → Bool, (∀ p ∈ before, sp p.block = true) → DataW.TrodVars enc P W' sp s.vars (s.fn H (ds ++ gs)).vars pv)
    (hps : before = pa ++ pv) (hb : Below W.heap.size W W')
    (hag : again = false) :
    s.post enc P f apart fresh handsOn again W args v W' := by
  have hlt : ∀ p ∈ before, p.block < W.heap.size := fun p hp => hW.lt p hp
  have hold : ∀ p ∈ before, (fun b => decide (b < W.heap.size)) p.block = true := fun p hp => by simpa using hlt p hp
  refine ⟨ds, gs, before, [], pa, pv, hW, hres _ _ _, hargs _ hold, hvars _ hold, World.keptBut_mono (fun p hp => ⟨hp, ?_⟩) (hb.frame (· ∈ before)), fun h => ?_⟩
  · rw [hps, List.mem_append] at hp
    exact Or.inr hp
  · rw [hag] at h; cases h

theorem trodAll_below (hl : laidOutB P = true) {W W' : World} (hb : Below W.heap.size W W') {sp : Nat → Bool} :
    ∀ {ts : List TypeId} {vs : List Value} {ds : List (DataW H)} {ps : List MemPlace}, (ts.all fun t => P.readableRec t && decide (t < P.types.size)) = true →
      DataW.TrodAll enc P W 0 (fun _ => true) true ts vs ds ps → (∀ x ∈ ps, x.block < W.heap.size) → (∀ x ∈ ps, sp x.block = true) → DataW.TrodAll enc P W' 0 sp true ts vs ds ps
  | [], _, _, _, _, h, _, _ => by
    obtain ⟨rfl, rfl, rfl⟩ := trodAll_nil h
    exact trodAll_mk0
  | t :: ts, _, _, _, ht, h, hlt, hsp => by
    obtain ⟨v, vs', d, ds', p, q, rfl, rfl, rfl, h0, hr⟩ := trodAll_cons h
    simp only [List.all_cons, Bool.and_eq_true, decide_eq_true_eq] at ht
    refine ⟨p, q, WideElems.Trod_stays hl ht.1.1 ht.1.2 h0 (fun x hx => hb.same (hlt x (by simp [hx]))) (fun x hx => hsp x (by simp [hx])), ?_, rfl⟩
    exact trodAll_below hl hb (by simpa using ht.2) hr (fun x hx => hlt x (by simp [hx])) (fun x hx => hsp x (by simp [hx]))

theorem trodAll_length {W : World} {b : Nat} {sp : Nat → Bool} {hd : Bool} : ∀ {ts : List TypeId} {vs : List Value} {ds : List (DataW H)} {ps : List MemPlace}, DataW.TrodAll enc P W b sp hd ts vs ds ps → ds.length = ts.length
  | [], _, _, _, h => by obtain ⟨rfl, rfl, rfl⟩ := trodAll_nil h; rfl
  | t :: ts, _, _, _, h => by
    obtain ⟨v, vs', d, ds', p, q, rfl, rfl, rfl, h0, hr⟩ := trodAll_cons h
    simp [trodAll_length hr]

/-- A law's outcome: it says true, its arguments read as they did. -/
theorem law_post {f : Func} {s : ChangeSpec} {apart fresh handsOn : Bool} {W W' : World} {args : Array Value} {ds gs : List (DataW H)} {before : List MemPlace} {tb : TypeId}
    (hl : laidOutB P = true) (hvars : s.vars = []) (hres : f.resultTypes = #[tb]) (htb : P.underlying tb = some .bool)
    (hpar : (f.params.toList.all fun t => P.readableRec t && decide (t < P.types.size)) = true)
    (hs : ∀ (ds : List (DataW H)), ds.length = f.params.size → s.fn H ds = { results := [.lit (.bool true)], args := ds })
    (hW : DataW.Whole enc P f.params.toList s.vars apart W args.toList ds gs before) (hb : Below W.heap.size W W') : s.post enc P f apart fresh handsOn false W args (.bool true) W' := by
  have hW0 := hW
  obtain ⟨p, q, hA, hV, rfl, hfz, hnd⟩ := hW
  have hV0 := hV
  rw [hvars] at hV0
  obtain ⟨rfl, rfl⟩ := trodVars_none hV0
  have hlen : ds.length = f.params.size := by simpa using trodAll_length hA
  have hsd := hs ds hlen
  have hlt : ∀ x ∈ p ++ [], x.block < W.heap.size := fun x hx => hW0.lt x hx
  refine post_of_below (pa := p) (pv := []) hW0 ?_ ?_ ?_ rfl hb rfl
  · intro b sp hd
    rw [List.append_nil, hsd, hres]
    exact trodAll_mk1 (shut_bool htb true)
  · intro sp hsp
    rw [List.append_nil, hsd]
    exact trodAll_below hl hb hpar hA (fun x hx => hlt x (by simp [hx])) (fun x hx => hsp x (by simp [hx]))
  · intro sp hsp
    rw [List.append_nil, hsd, hvars]
    rfl
end

/-- The frame of a law's row over listed variables: what is left is the walk. -/
theorem law_lift {H : Type} {enc : TypeId × Value → H} {C : Checked} {os : Os} {f : FuncId} {fn : Func} {s : ChangeSpec} {conds : List PathCond} {apart fresh handsOn : Bool} {laid : List (String × DataW Unit)} {tb : TypeId}
    (own : ownKnob C.prog.godebug = none) (started : os.Started) (noInit : C.prog.inits.idxOf? f = none) (hfn : C.prog.funcs[f]? = some fn)
    (hl : laidOutB C.prog = true) (hvars : s.vars = []) (hres : fn.resultTypes = #[tb]) (htb : C.prog.underlying tb = some .bool)
    (hpar : (fn.params.toList.all fun t => C.prog.readableRec t && decide (t < C.prog.types.size)) = true)
    (hs : ∀ (ds : List (DataW H)), ds.length = fn.params.size → s.fn H ds = { results := [.lit (.bool true)], args := ds })
    (witness : ∃ (w : World) (tape : Tape) (i : Input), w.os = os ∧ (w.forCall tape i).Shaped C.prog ∧ i.vars = [] ∧ Input.okWide C.prog (w.forCall tape i) .any w.heap.size f i ∧
      ((s.pre enc C.prog fn conds apart (w.forCall tape i).memory i.args ∧ laidMetH C.prog laid (w.forCall tape i).memory) ∧ sizedMet enc C.prog fn (OpenSpec.ofChange s) apart (w.forCall tape i).memory i.args) ∧ ({} : Assume).holds C.prog (lone (Frame.enter C.prog f i.args .normal) [] (w.forCall tape i)))
    (walk : ∀ (W : World) (base : Nat) (args : Array Value) (ds : List (DataW H)) (p : List MemPlace),
      (∀ (j : Nat) t v, fn.params[j]? = some t → args[j]? = some v → Value.okWide C.prog W .any base t v) →
      DataW.TrodAll enc C.prog W 0 (fun _ => true) true fn.params.toList args.toList ds p → (∀ x ∈ p, x.block < W.heap.size) →
      (DataW.weightsEach C.prog (fn.params.toList ++ s.plain.varTypes C.prog) (ds ++ [])).all (· ≤ reachBytes) = true →
      laidMetH C.prog laid W → Calls C.prog f args W fun e W' => e = .returned (.bool true) ∧ Below W.heap.size W W') :
    ReturnsInHanded {} C os f .any (fun w args => (s.pre enc C.prog fn conds apart w args ∧ laidMetH C.prog laid w) ∧ sizedMet enc C.prog fn (OpenSpec.ofChange s) apart w args) (s.post enc C.prog fn apart fresh handsOn false) := by
  refine returnsInHanded_of_change_and (X := fun w _ => laidMetH C.prog laid w) (fun _ _ _ hh h => h.of_heap hh) own started noInit hfn witness ?_
  intro W base args ds gs before hval hW hcnd hsz hL _
  have hW0 := hW
  obtain ⟨p, q, hA, hV, rfl, hfz, hnd⟩ := hW0
  have hV0 := hV
  rw [hvars] at hV0
  obtain ⟨rfl, rfl⟩ := trodVars_none hV0
  have hlt : ∀ x ∈ p ++ [], x.block < W.heap.size := fun x hx => hW.lt x hx
  exact (walk W base args ds p hval hA (fun x hx => hlt x (by simp [hx])) hsz hL).mono fun e W' ⟨he, hb⟩ => ⟨_, he, law_post hl hvars hres htb hpar hs hW hb⟩

/-! ### A block that is known whole -/
def Blk (w : World) (b : Nat) (t : TypeId) (cs : List Value) : Prop := w.heap[b]? = some (.cells cs.toArray t (0, 0))
theorem Blk.lt {w : World} {b : Nat} {t : TypeId} {cs : List Value} (h : Blk w b t cs) : b < w.heap.size := (Array.getElem?_eq_some_iff.1 h).1
theorem Blk.cell {w : World} {b : Nat} {t : TypeId} {cs : List Value} (h : Blk w b t cs) (i : Nat) (v : Value) (hi : cs[i]? = some v) : w.cell? ⟨b, i, none⟩ = some v := by
  unfold Blk at h
  simp only [World.cell?, h, Option.isSome_none, Bool.false_eq_true, if_false, List.getElem?_toArray]
  exact hi
theorem Blk.free {w : World} {b : Nat} {t : TypeId} {cs : List Value} (h : Blk w b t cs) (i : Nat) : w.frozen? ⟨b, i, none⟩ = false := by
  unfold Blk at h
  simp [World.frozen?, h]
theorem Blk.drew {w : World} {b : Nat} {t : TypeId} {cs : List Value} (h : Blk w b t cs) (n : Nat) : Blk (w.drewN n) b t cs := h
theorem Blk.set {w : World} {b : Nat} {t : TypeId} {cs : List Value} (h : Blk w b t cs) (i : Nat) (v : Value) : Blk (w.setCell ⟨b, i, none⟩ v) b t (cs.set i v) := by
  unfold Blk at *
  simp [World.setCell, Array.getElem?_modify, h]
theorem Blk.far {w : World} {b c : Nat} {t : TypeId} {cs : List Value} (h : Blk w b t cs) (hne : b ≠ c) (i : Nat) (v : Value) : Blk (w.setCell ⟨c, i, none⟩ v) b t cs := by
  unfold Blk at *
  rw [Below.heap_setCell _ _ _ _ (by simpa using hne)]
  exact h
theorem Blk.new (w : World) (t : TypeId) (cs : List Value) : Blk (w.alloc (.cells cs.toArray t (0, 0))) w.heap.size t cs := (MapKept.heap_alloc w _).1
theorem Blk.alloc {w : World} {b : Nat} {t : TypeId} {cs : List Value} (h : Blk w b t cs) (o : Obj) : Blk (w.alloc o) b t cs := by
  unfold Blk at *
  rw [Below.heap_alloc _ _ _ (Blk.lt h)]
  exact h
theorem Blk.below {w w' : World} {b B : Nat} {t : TypeId} {cs : List Value} (h : Blk w b t cs) (hb : Below B w w') (hlt : b < B) : Blk w' b t cs := by
  unfold Blk at *
  rw [hb.block b hlt]; exact h
theorem below_drewN {B : Nat} {a w : World} (h : Below B a w) (n : Nat) : Below B a (w.drewN n) := ⟨h.os, h.tape, h.output, h.size, h.block⟩
theorem below_set (w : World) (b o : Nat) (v : Value) : Below b w (w.setCell ⟨b, o, none⟩ v) := (Below.refl b w).setCell (p := ⟨b, o, none⟩) (Nat.le_refl b) v
theorem below_set' {B : Nat} {w0 w : World} (h : Below B w0 w) (b o : Nat) (v : Value) (hb : B ≤ b) : Below B w0 (w.setCell ⟨b, o, none⟩ v) := h.setCell (p := ⟨b, o, none⟩) hb v

/-! ### Which blocks may have turned -/
structure Keeps (F : Nat → Prop) (w w' : World) : Prop where
  os : w'.os = w.os
  tape : w'.tape = w.tape
  output : w'.output = w.output
  size : w.heap.size ≤ w'.heap.size
  block : ∀ k : Nat, k < w.heap.size → ¬ F k → w'.heap[k]? = w.heap[k]?
theorem Keeps.refl (F : Nat → Prop) (w : World) : Keeps F w w := ⟨rfl, rfl, rfl, Nat.le_refl _, fun _ _ _ => rfl⟩
theorem Keeps.trans {F G : Nat → Prop} {a b c : World} (h : Keeps F a b) (k : Keeps G b c) (hG : ∀ k : Nat, k < a.heap.size → G k → F k) : Keeps F a c :=
  ⟨k.os.trans h.os, k.tape.trans h.tape, k.output.trans h.output, Nat.le_trans h.size k.size, fun i hi hn => (k.block i (Nat.lt_of_lt_of_le hi h.size) (fun hg => hn (hG i hi hg))).trans (h.block i hi hn)⟩
theorem Keeps.mono {F G : Nat → Prop} {a b : World} (h : Keeps F a b) (hG : ∀ k : Nat, k < a.heap.size → F k → G k) : Keeps G a b :=
  ⟨h.os, h.tape, h.output, h.size, fun i hi hn => h.block i hi (fun hf => hn (hG i hi hf))⟩
theorem Keeps.drewN {F : Nat → Prop} {a b : World} (h : Keeps F a b) (n : Nat) : Keeps F a (b.drewN n) := ⟨h.os, h.tape, h.output, h.size, h.block⟩
theorem Keeps.set {F : Nat → Prop} {a w : World} (h : Keeps F a w) (b o : Nat) (v : Value) (hb : b < a.heap.size → F b) : Keeps F a (w.setCell ⟨b, o, none⟩ v) :=
  ⟨h.os, h.tape, h.output, by simpa [World.setCell] using h.size, fun i hi hn => (Below.heap_setCell w ⟨b, o, none⟩ v i (fun e => hn (by have e' : i = b := e; subst e'; exact hb hi))).trans (h.block i hi hn)⟩
theorem Keeps.alloc {F : Nat → Prop} {a w : World} (h : Keeps F a w) (o : Obj) : Keeps F a (w.alloc o) :=
  ⟨h.os, h.tape, h.output, Nat.le_trans h.size (by simp), fun i hi hn => (Below.heap_alloc w o i (Nat.lt_of_lt_of_le hi h.size)).trans (h.block i hi hn)⟩
theorem Keeps.of_below {F : Nat → Prop} {a w : World} (h : Below a.heap.size a w) : Keeps F a w := ⟨h.os, h.tape, h.output, h.size, fun i hi _ => h.block i hi⟩
theorem Keeps.below {F : Nat → Prop} {a w : World} {B : Nat} (h : Keeps F a w) (hB : B ≤ a.heap.size) (hF : ∀ k, k < B → ¬ F k) : Below B a w :=
  ⟨h.os, h.tape, h.output, h.size, fun k hk => h.block k (Nat.lt_of_lt_of_le hk hB) (hF k hk)⟩
theorem Keeps.blk {F : Nat → Prop} {a w : World} {b : Nat} {t : TypeId} {cs : List Value} (h : Keeps F a w) (hb : Blk a b t cs) (hn : ¬ F b) : Blk w b t cs := by
  have hl := Blk.lt hb
  unfold Blk at *
  rw [h.block b hl hn]; exact hb
theorem Keeps.cell {F : Nat → Prop} {a w : World} (h : Keeps F a w) {p : Addr} {v : Value} (hp : a.cell? p = some v) (hn : ¬ F p.block) : w.cell? p = some v := by
  rw [← hp]
  have hl : p.block < a.heap.size := by
    rcases Nat.lt_or_ge p.block a.heap.size with h' | h'
    · exact h'
    · simp [World.cell?, Array.getElem?_eq_none h'] at hp
  exact World.cell?_of_block (w := a) (h.block p.block hl hn)
/-- only block b may have turned -/
def Only (b : Nat) (w w' : World) : Prop := Keeps (fun k => k = b) w w'
theorem Only.refl (b : Nat) (w : World) : Only b w w := Keeps.refl _ w
theorem only_set (w : World) (b o : Nat) (v : Value) : Only b w (w.setCell ⟨b, o, none⟩ v) := (Keeps.refl _ w).set b o v (fun _ => rfl)
theorem Only.set {b : Nat} {w0 w : World} (h : Only b w0 w) (o : Nat) (v : Value) : Only b w0 (w.setCell ⟨b, o, none⟩ v) := Keeps.set h b o v (fun _ => rfl)
theorem Only.drewN {b : Nat} {w0 w : World} (h : Only b w0 w) (n : Nat) : Only b w0 (w.drewN n) := Keeps.drewN h n
theorem Only.below {b B : Nat} {w0 w : World} (h : Only b w0 w) (hB : B ≤ w0.heap.size) (hb : B ≤ b) : Below B w0 w := Keeps.below h hB (fun k hk e => by omega)
theorem Only.blk {b c : Nat} {w0 w : World} {t : TypeId} {cs : List Value} (h : Only b w0 w) (hc : Blk w0 c t cs) (hn : c ≠ b) : Blk w c t cs := Keeps.blk h hc hn
theorem Only.cell {b : Nat} {w0 w : World} (h : Only b w0 w) {p : Addr} {v : Value} (hp : w0.cell? p = some v) (hn : p.block ≠ b) : w.cell? p = some v := Keeps.cell h hp hn
theorem wp_gen {P : Program} {c : Code} {Q : Exit → Act → World → Prop} {a : Act} {W : World} (R : World → Prop) (h : R W) (k : ∀ w1, R w1 → Code.wp P c Q a w1) : Code.wp P c Q a W := k W h
theorem calls_gen {P : Program} {f : FuncId} {args : Array Value} {Q : Ending → World → Prop} {W : World} (R : World → Prop) (h : R W) (k : ∀ w1, R w1 → Calls P f args w1 Q) : Calls P f args W Q := k W h
theorem val_int {k : IntKind} {a b : Int} (h : a = b) : Value.int k a = .int k b := by rw [h]
end Go.Proofs.YtkhdhiddhnmdkaaGreatDoor

namespace Go.Proofs.YtkhdhiddhnmdkaaGreatDoor
open Go.RowKit

theorem blk_of_own {w : World} {base : Nat} {e : TypeId} {g n : Nat} {xs : List Value} (h : w.ownsRow base e 1 (.slice (some ⟨g, 0, none⟩) n n) n xs) : Blk w g e xs ∧ base ≤ g := by
  rcases h.2 with ⟨h', _⟩ | ⟨g', cap', cur, h', hb, hg, _, _, hsz, htk⟩
  · simp at h'
  · simp only [Value.slice.injEq, Option.some.injEq, Addr.mk.injEq, and_true, true_and] at h'
    obtain ⟨rfl, rfl⟩ := h'
    rw [Nat.mul_one] at hsz htk
    rw [List.take_of_length_le (by simp [hsz])] at htk
    subst htk
    exact ⟨by simpa [Blk] using hg, hb⟩
theorem made_one (v : Value) (n : Nat) : (madeCells #[v] n).toList = List.replicate n v := by
  apply List.ext_getElem?
  intro i
  rcases Nat.lt_or_ge i n with h | h
  · simp [madeCells, h, Nat.mod_one]
  · simp [madeCells, h]
end Go.Proofs.YtkhdhiddhnmdkaaGreatDoor

namespace Go.Proofs.YtkhdhiddhnmdkaaGreatDoor
open Go.RowKit

/-- the block in which a slice's cells lie, if it has any -/
def vblk : Value → Option Nat
  | .slice (some a) _ cap => if cap = 0 then none else some a.block
  | _ => none
/-- slice v has n elements of 'size' cells each, which are xs; its spare cells are there -/
def Sg (w : World) (size : Nat) (v : Value) (n : Nat) (xs : List Value) : Prop :=
  xs.length = n * size ∧ ∃ (ao : Option Addr) (cap : Nat), v = .slice ao n cap ∧ n ≤ cap ∧ cap ≤ maxLen ∧
    (cap = 0 ∨ ∃ g off, ao = some ⟨g, off, none⟩ ∧ g < w.heap.size ∧ (∀ j, j < cap * size → (w.cell? ⟨g, off + j, none⟩).isSome = true ∧ w.frozen? ⟨g, off + j, none⟩ = false) ∧ ∀ j, j < n * size → w.cell? ⟨g, off + j, none⟩ = xs[j]?)
theorem Sg.nil (w : World) (size : Nat) : Sg w size (.slice none 0 0) 0 [] := ⟨by simp, none, 0, rfl, Nat.le_refl _, Nat.zero_le _, .inl rfl⟩
theorem Sg.len {w : World} {size : Nat} {v : Value} {n : Nat} {xs : List Value} (h : Sg w size v n xs) : xs.length = n * size := h.1
theorem Sg.lt {w : World} {size : Nat} {v : Value} {n : Nat} {xs : List Value} (h : Sg w size v n xs) {g : Nat} (hg : vblk v = some g) : g < w.heap.size := by
  obtain ⟨_, ao, cap, rfl, _, _, h3⟩ := h
  rcases h3 with rfl | ⟨g', off, rfl, hl, _⟩
  · cases ao <;> simp [vblk] at hg
  · by_cases hc : cap = 0
    · simp [vblk, hc] at hg
    · simp [vblk, hc] at hg; omega
theorem Sg.same {w w' : World} {size : Nat} {v : Value} {n : Nat} {xs : List Value} (h : Sg w size v n xs) (hs : w.heap.size ≤ w'.heap.size) (hb : ∀ g, vblk v = some g → w'.heap[g]? = w.heap[g]?) : Sg w' size v n xs := by
  obtain ⟨hl, ao, cap, rfl, h1, h2, h3⟩ := h
  refine ⟨hl, ao, cap, rfl, h1, h2, ?_⟩
  rcases Nat.eq_zero_or_pos cap with h0 | h0
  · exact .inl h0
  · rcases h3 with h3 | ⟨g, off, rfl, hg, hc, hx⟩
    · omega
    · have e := hb g (by simp [vblk]; omega)
      refine .inr ⟨g, off, rfl, by omega, fun j hj => ?_, fun j hj => ?_⟩
      · rw [World.cell?_of_block (w := w) (w' := w') (a := ⟨g, off + j, none⟩) e, World.frozen?_of_block (w := w) (w' := w') (a := ⟨g, off + j, none⟩) e]; exact hc j hj
      · rw [World.cell?_of_block (w := w) (w' := w') (a := ⟨g, off + j, none⟩) e]; exact hx j hj
theorem Sg.keeps {w w' : World} {F : Nat → Prop} {size : Nat} {v : Value} {n : Nat} {xs : List Value} (h : Sg w size v n xs) (hk : Keeps F w w') (hF : ∀ g, vblk v = some g → ¬ F g) : Sg w' size v n xs :=
  h.same hk.size (fun g hg => hk.block g (h.lt hg) (hF g hg))
theorem Sg.below {w w' : World} {size : Nat} {v : Value} {n : Nat} {xs : List Value} (h : Sg w size v n xs) (hb : Below w.heap.size w w') : Sg w' size v n xs :=
  h.same hb.size (fun g hg => hb.block g (h.lt hg))
/-- a row of the call's own -/
theorem Sg.of_own {w : World} {base : Nat} {e : TypeId} {size : Nat} {v : Value} {n : Nat} {xs : List Value} (h : w.ownsRow base e size v n xs) (hn : 0 < n) :
    ∃ g cap, v = .slice (some ⟨g, 0, none⟩) n cap ∧ base ≤ g ∧ vblk v = some g ∧ Sg w size v n xs := by
  obtain ⟨hl, h⟩ := h
  rcases h with ⟨_, h0⟩ | ⟨g, cap, cur, rfl, hb, hg, hnc, hm, hsz, htk⟩
  · omega
  · have hgl : g < w.heap.size := (Array.getElem?_eq_some_iff.1 hg).1
    refine ⟨g, cap, rfl, hb, by simp [vblk]; omega, hl, _, cap, rfl, hnc, hm, .inr ⟨g, 0, rfl, hgl, fun j hj => ?_, fun j hj => ?_⟩⟩
    · rw [Nat.zero_add]
      refine ⟨?_, by simp [World.frozen?, hg]⟩
      simp only [World.cell?, hg, Option.isSome_none, Bool.false_eq_true, if_false]
      rw [Array.getElem?_eq_getElem (by omega)]; rfl
    · rw [Nat.zero_add]
      simp only [World.cell?, hg, Option.isSome_none, Bool.false_eq_true, if_false]
      rw [← htk, List.getElem?_take_of_lt hj, Array.getElem?_toList]
theorem keeps_setCells (b : Nat) : ∀ (vs : List Value) (o : Nat) (w : World), Keeps (fun k => k = b) w (w.setCells b o vs)
  | [], _, w => Keeps.refl _ w
  | v :: r, o, w => ((Keeps.refl (fun k => k = b) w).set b o v (fun _ => rfl)).trans (keeps_setCells b r (o + 1) _) (fun _ _ h => h)

theorem run_append_sg {P : Program} (w : World) (t ty e : TypeId) (i : TypeInfo) (z : Value) (size bytes : Nat) (ht : P.underlying t = some (.slice e)) (hi : P.info? e = some i) (hz : i.zero = some z)
    (hsize : i.size = size) (hby : i.bytes = bytes) (hzs : z.cells.size = size) (hsz : 0 < size)
    (v : Value) (n : Nat) (xs : List Value) (hseg : Sg w size v n xs)
    (a : Addr) (m c : Nat) (news : List Value) (hl : news.length = m * size) (hnews : ∀ j u, news[j]? = some u → w.cell? (a.add j) = some u) (h1 : ∀ u ∈ news, u.oneCell' = true)
    (hm : 0 < m) (h63 : n + m ≤ maxLen) (hbytes : (n + m) * bytes ≤ 140737488355328) :
    ∃ g' o cap w', (Builtin.append_ #[t, t] ty #[v, .slice (some a) m c]).run P w = .ok (.slice (some ⟨g', o, none⟩) (n + m) cap) w' ∧ Sg w' size (.slice (some ⟨g', o, none⟩) (n + m) cap) (n + m) (xs ++ news) ∧
      vblk (.slice (some ⟨g', o, none⟩) (n + m) cap) = some g' ∧ (vblk v = some g' ∨ w.heap.size ≤ g') ∧ Keeps (fun k => vblk v = some k) w w' := by
  obtain ⟨hlen, ao, cap, rfl, hnc, hcm, hcase⟩ := hseg
  have fin : ∀ v' w', w'.ownsRow w.heap.size e size v' (n + m) (xs ++ news) → w.grownBy w' none → ∃ g' o cap', v' = .slice (some ⟨g', o, none⟩) (n + m) cap' ∧ Sg w' size v' (n + m) (xs ++ news) ∧ vblk v' = some g' ∧ (vblk (.slice ao n cap) = some g' ∨ w.heap.size ≤ g') ∧ Keeps (fun k => vblk (.slice ao n cap) = some k) w w' := by
    intro v' w' ho hg
    obtain ⟨g', cap', rfl, hb, hv, hs⟩ := Sg.of_own ho (by omega)
    exact ⟨g', 0, cap', rfl, hs, hv, .inr hb, ⟨hg.os, hg.tape, hg.output, hg.size, fun k hk _ => hg.block k hk (by simp)⟩⟩
  by_cases hroom : n + m ≤ cap
  · rcases hcase with h0 | ⟨g, off, rfl, hg, hsp, hxs⟩
    · omega
    · subst hsize
      have hnm : (n + m) * i.size ≤ cap * i.size := Nat.mul_le_mul_right _ hroom
      rw [Nat.add_mul] at hnm
      have hrun := run_append_room_cells (P := P) w t ty e i ht hi g off n cap a m c news hl hnews h1 hroom
        (fun j hj => by rw [Nat.add_assoc]; exact (hsp _ (by omega)).1) (fun j hj => by rw [Nat.add_assoc]; exact (hsp _ (by omega)).2)
      have hk := keeps_setCells g news (off + n * i.size) w
      have hvb : vblk (.slice (some ⟨g, off, none⟩) n cap) = some g := by simp [vblk]; omega
      refine ⟨g, off, cap, _, hrun, ⟨by rw [List.length_append, hlen, hl, Nat.add_mul], _, cap, rfl, hroom, hcm, .inr ⟨g, off, rfl, Nat.lt_of_lt_of_le hg hk.size, fun j hj => ?_, fun j hj => ?_⟩⟩, by simp [vblk]; omega, .inl hvb, hk.mono (fun k _ h => by subst h; exact hvb)⟩
      · rw [World.frozen?_setCells]
        refine ⟨?_, (hsp j hj).2⟩
        by_cases hin : n * i.size ≤ j ∧ j < n * i.size + news.length
        · have := World.cell?_setCells_in g news (off + n * i.size) w (fun j hj => by rw [Nat.add_assoc]; exact (hsp _ (by omega)).1) (j - n * i.size) (by omega)
          rw [show off + n * i.size + (j - n * i.size) = off + j from by omega] at this
          rw [this]; rfl
        · rw [World.cell?_setCells_out g news _ w _ (fun _ _ => by show off + j < _ ∨ _ ≤ off + j; omega)]
          exact (hsp j hj).1
      · rw [Nat.add_mul] at hj
        by_cases hin : j < n * i.size
        · rw [World.cell?_setCells_out g news _ w _ (fun _ _ => by show off + j < _ ∨ _ ≤ off + j; omega), hxs j hin, List.getElem?_append_left (by omega)]
        · have := World.cell?_setCells_in g news (off + n * i.size) w (fun j hj => by rw [Nat.add_assoc]; exact (hsp _ (by omega)).1) (j - n * i.size) (by omega)
          rw [show off + n * i.size + (j - n * i.size) = off + j from by omega] at this
          rw [this, List.getElem?_append_right (by omega), hlen, List.getElem?_eq_getElem]
  · rcases hcase with h0 | ⟨g, off, rfl, hg, hsp, hxs⟩
    · obtain rfl : n = 0 := by omega
      obtain rfl : xs = [] := List.eq_nil_of_length_eq_zero (by simpa using hlen)
      subst h0
      cases ao with
      | none =>
        obtain ⟨v', w', hrun, r1, r2, _⟩ := run_append_own (P := P) w w.heap.size t ty e i z size bytes ht hi hz hsize hby hzs hsz (.slice none 0 0) 0 [] (World.ownsRow_nil w _ e size) a m c news hl hnews h1 h63 hbytes (Nat.le_refl _)
        obtain ⟨g', o, cap', rfl, hh⟩ := fin v' w' r1 r2
        exact ⟨g', o, cap', w', hrun, hh⟩
      | some b =>
        obtain ⟨v', w', hrun, r1, r2⟩ := run_append_arg_grows (P := P) w t ty e i z size bytes ht hi hz hsize hby hzs hsz b 0 0 [] (by simp) (fun j u h => by simp at h) a m c news hl hnews (by omega) h63 hbytes
        obtain ⟨g', o, cap', rfl, hh⟩ := fin v' w' r1 r2
        exact ⟨g', o, cap', w', hrun, hh⟩
    · obtain ⟨v', w', hrun, r1, r2⟩ := run_append_arg_grows (P := P) w t ty e i z size bytes ht hi hz hsize hby hzs hsz ⟨g, off, none⟩ n cap xs hlen (fun j u h => by
        have hj := (List.getElem?_eq_some_iff.1 h).1
        rw [Addr.add_lit, hxs j (by omega)]; exact h) a m c news hl hnews (by omega) h63 hbytes
      obtain ⟨g', o, cap', rfl, hh⟩ := fin v' w' r1 r2
      exact ⟨g', o, cap', w', hrun, hh⟩

/-- append, as the walk meets it -/
theorem wpList_append_sg {P : Program} (w : World) {ops : Array Oper} {rest : List Oper} {o : Oper} {a : Act} {Q : Exit → Act → World → Prop}
    (hg : o.guard = none) (s x : Operand) (t : TypeId) (hop : o.op = Op.call { callee := Callee.builtin Builtin.append, args := #[s, x], argTypes := #[t, t] })
    (e : TypeId) (i : TypeInfo) (z : Value) (size bytes : Nat) (h1 : P.underlying t = some (.slice e)) (h2 : P.info? e = some i) (h3 : i.zero = some z) (h4 : i.size = size) (h5 : i.bytes = bytes) (h6 : z.cells.size = size) (h7 : 0 < size)
    (v : Value) (n : Nat) (xs : List Value) (hs : a.eval s = v) (hseg : Sg w size v n xs)
    (ad : Addr) (m c : Nat) (news : List Value) (hx : a.eval x = .slice (some ad) m c) (hn : news.length = m * size) (hc : ∀ j u, news[j]? = some u → w.cell? (ad.add j) = some u) (h1c : ∀ u ∈ news, u.oneCell' = true)
    (hm : 0 < m) (b1 : n + m ≤ maxLen) (b2 : (n + m) * bytes ≤ 140737488355328)
    (hK : ∀ g' off cap w', Sg w' size (.slice (some ⟨g', off, none⟩) (n + m) cap) (n + m) (xs ++ news) → vblk (.slice (some ⟨g', off, none⟩) (n + m) cap) = some g' → (vblk v = some g' ∨ w.heap.size ≤ g') → Keeps (fun k => vblk v = some k) w w' → wpList P ops Q rest (a.put o.dst (.slice (some ⟨g', off, none⟩) (n + m) cap)) w') :
    wpList P ops Q (o :: rest) a w := by
  refine wpList_plain hg fun K hK' => ?_
  obtain ⟨g', off, cap, w', hrun, r1, r2, r3, r4⟩ := run_append_sg (P := P) w t o.type e i z size bytes h1 h2 h3 h4 h5 h6 h7 v n xs hseg ad m c news hn hc h1c hm b1 b2
  unfold Oper.wp
  simp [execOp, hop, resolve, invoke, builtin, hs, hx, hrun, Result.andThen]
  exact hK' _ _ (hK g' off cap w' r1 r2 r3 r4)

/-- what is known of a slice that is not empty, to walk on -/
theorem Sg.open {w : World} {size : Nat} {v : Value} {n : Nat} {xs : List Value} (h : Sg w size v n xs) (hn : 0 < n) :
    ∃ g off cap, v = .slice (some ⟨g, off, none⟩) n cap ∧ n ≤ cap ∧ cap ≤ maxLen ∧ vblk v = some g ∧ g < w.heap.size ∧ (∀ j, j < n * size → w.cell? ⟨g, off + j, none⟩ = xs[j]? ∧ w.frozen? ⟨g, off + j, none⟩ = false) ∧
      Sg w size (if cap = 1 then .slice (some ⟨g, off, none⟩) (n - 1) (cap - 1) else .slice (some ⟨g, off + size, none⟩) (n - 1) (cap - 1)) (n - 1) (xs.drop size) := by
  obtain ⟨hl, ao, cap, rfl, h1, h2, h3⟩ := h
  rcases h3 with h0 | ⟨g, off, rfl, hg, hc, hx⟩
  · omega
  · have hnc : n * size ≤ cap * size := Nat.mul_le_mul_right _ h1
    refine ⟨g, off, cap, rfl, h1, h2, by simp [vblk]; omega, hg, fun j hj => ⟨hx j hj, (hc j (by omega)).2⟩, ?_⟩
    have e1 : n * size = (n - 1) * size + size := by
      obtain ⟨k, rfl⟩ : ∃ k, n = k + 1 := ⟨n - 1, by omega⟩
      rw [Nat.add_sub_cancel, Nat.add_mul, Nat.one_mul]
    have e2 : cap * size = (cap - 1) * size + size := by
      obtain ⟨k, rfl⟩ : ∃ k, cap = k + 1 := ⟨cap - 1, by omega⟩
      rw [Nat.add_sub_cancel, Nat.add_mul, Nat.one_mul]
    have hl2 : (xs.drop size).length = (n - 1) * size := by rw [List.length_drop, hl]; omega
    split
    · rename_i hc1
      exact ⟨hl2, _, _, rfl, by omega, by omega, .inl (by omega)⟩
    · refine ⟨hl2, _, _, rfl, by omega, by omega, .inr ⟨g, off + size, rfl, hg, fun j hj => ?_, fun j hj => ?_⟩⟩
      · rw [Nat.add_assoc]; exact hc _ (by omega)
      · rw [Nat.add_assoc, hx _ (by omega), List.getElem?_drop]
/-- a cell of it written -/
theorem Sg.set {w : World} {n g off cap : Nat} {xs : List Value} (h : Sg w 1 (.slice (some ⟨g, off, none⟩) n cap) n xs) (i : Nat) (hi : i < n) (u : Value) :
    Sg (w.setCell ⟨g, off + i, none⟩ u) 1 (.slice (some ⟨g, off, none⟩) n cap) n (xs.set i u) := by
  obtain ⟨hl, ao, cap', hv, h1, h2, h3⟩ := h
  simp only [Value.slice.injEq, true_and] at hv
  obtain ⟨rfl, rfl⟩ := hv
  refine ⟨by simpa using hl, _, cap, rfl, h1, h2, ?_⟩
  rcases h3 with h0 | ⟨g', off', ha, hg, hc, hx⟩
  · omega
  · simp only [Option.some.injEq, Addr.mk.injEq, and_true] at ha
    obtain ⟨rfl, rfl⟩ := ha
    have hin : (w.cell? ⟨g, off + i, none⟩).isSome = true := (hc i (by omega)).1
    refine .inr ⟨g, off, rfl, by simpa [World.setCell] using hg, fun j hj => ?_, fun j hj => ?_⟩
    · rw [World.frozen?_setCell]
      refine ⟨?_, (hc j hj).2⟩
      by_cases e : j = i
      · subst e
        obtain ⟨u0, hu⟩ := Option.isSome_iff_exists.1 hin
        rw [World.cell?_setCell_same _ _ _ hu]; rfl
      · rw [World.cell?_setCell_other _ _ _ _ (by simp)]; exact (hc j hj).1
    · by_cases e : j = i
      · subst e
        obtain ⟨u0, hu⟩ := Option.isSome_iff_exists.1 hin
        rw [World.cell?_setCell_same _ _ _ hu, List.getElem?_set_self (by omega)]
      · rw [World.cell?_setCell_other _ _ _ _ (by simp), hx j hj, List.getElem?_set_ne (by omega)]
theorem run_clear_sg {P : Program} (w : World) (t ty e : TypeId) (z : Value) (ht : P.underlying t = some (.slice e)) (hz : ∀ w, (zeroValue e).run P w = .ok z w) (hzc : z.cells = #[z]) (hz1 : z.oneCell' = true)
    (v : Value) (n : Nat) (xs : List Value) (hseg : Sg w 1 v n xs) :
    ∃ w', (Builtin.clear_ #[t] ty #[v]).run P w = .ok (.tuple #[]) w' ∧ Sg w' 1 v n (List.replicate n z) ∧ Keeps (fun k => vblk v = some k) w w' := by
  obtain ⟨hl, ao, cap, rfl, h1, h2, h3⟩ := hseg
  rcases Nat.eq_zero_or_pos n with rfl | hn
  · refine ⟨w, ?_, ⟨by simp, ao, cap, rfl, h1, h2, h3.imp id ?_⟩, Keeps.refl _ _⟩
    · cases ao <;> simp [Builtin.clear_, run_underlying ht]
    · rintro ⟨g, off, rfl, hg, hc, hx⟩
      exact ⟨g, off, rfl, hg, hc, fun j hj => by omega⟩
  · rcases h3 with h0 | ⟨g, off, rfl, hg, hc, hx⟩
    · omega
    · have ez : (Builtin.zeroCells #[z] n).toList = List.replicate n z := by
        apply List.ext_getElem?
        intro i
        rcases Nat.lt_or_ge i n with h | h
        · simp [Builtin.zeroCells, h, Nat.mod_one]
        · simp [Builtin.zeroCells, h]
      have hst := run_storeCells_cells (P := P) g off (List.replicate n z) 0 w (fun j hj => by rw [Nat.add_zero]; exact (hc j (by simp at hj; omega)).1) (fun j hj => by rw [Nat.add_zero]; exact (hc j (by simp at hj; omega)).2) (fun v hv => by rw [(List.mem_replicate.1 hv).2]; exact hz1)
      rw [Nat.add_zero] at hst
      obtain ⟨m, rfl⟩ : ∃ m, n = m + 1 := ⟨n - 1, by omega⟩
      refine ⟨w.setCells g off (List.replicate (m + 1) z), ?_, ⟨by simp, _, cap, rfl, h1, h2, .inr ⟨g, off, rfl, ?_, fun j hj => ?_, fun j hj => ?_⟩⟩, (keeps_setCells g _ off w).mono (fun k _ h => by subst h; simp [vblk]; omega)⟩
      · simp [Builtin.clear_, run_underlying ht, hz, hzc, ez, hst]
      · exact Nat.lt_of_lt_of_le hg (keeps_setCells g _ off w).size
      · rw [World.frozen?_setCells]
        refine ⟨?_, (hc j hj).2⟩
        by_cases hin : j < m + 1
        · rw [World.cell?_setCells_in g (List.replicate (m + 1) z) off w (fun j hj => (hc j (by simp at hj; omega)).1) j (by simpa using hin)]; rfl
        · rw [World.cell?_setCells_out g _ _ w _ (fun _ _ => by show off + j < _ ∨ _ ≤ off + j; simp; omega)]
          exact (hc j hj).1
      · have hin : j < m + 1 := by omega
        rw [World.cell?_setCells_in g (List.replicate (m + 1) z) off w (fun j hj => (hc j (by simp at hj; omega)).1) j (by simpa using hin)]
        simp [hin]
theorem wpList_clear_sg {P : Program} (w : World) {ops : Array Oper} {rest : List Oper} {o : Oper} {a : Act} {Q : Exit → Act → World → Prop}
    (hg : o.guard = none) (s : Operand) (t : TypeId) (hop : o.op = Op.call { callee := Callee.builtin Builtin.clear, args := #[s], argTypes := #[t] })
    (e : TypeId) (z : Value) (ht : P.underlying t = some (.slice e)) (hz : ∀ w, (zeroValue e).run P w = .ok z w) (hzc : z.cells = #[z]) (hz1 : z.oneCell' = true)
    (v : Value) (n : Nat) (xs : List Value) (hs : a.eval s = v) (hseg : Sg w 1 v n xs)
    (hK : ∀ w', Sg w' 1 v n (List.replicate n z) → Keeps (fun k => vblk v = some k) w w' → wpList P ops Q rest (a.put o.dst (.tuple #[])) w') :
    wpList P ops Q (o :: rest) a w := by
  refine wpList_plain hg fun K hK' => ?_
  obtain ⟨w', hrun, r1, r2⟩ := run_clear_sg (P := P) w t o.type e z ht hz hzc hz1 v n xs hseg
  unfold Oper.wp
  simp [execOp, hop, resolve, invoke, builtin, hs, hrun, Result.andThen]
  exact hK' _ _ (hK w' r1 r2)
end Go.Proofs.YtkhdhiddhnmdkaaGreatDoor

namespace Go.Proofs.YtkhdhiddhnmdkaaGreatDoor
open Go.RowKit

theorem run_append_any {P : Program} (w : World) (t ty e : TypeId) (i : TypeInfo) (z : Value) (size bytes : Nat) (ht : P.underlying t = some (.slice e)) (hi : P.info? e = some i) (hz : i.zero = some z)
    (hsize : i.size = size) (hby : i.bytes = bytes) (hzs : z.cells.size = size) (hsz : 0 < size)
    (v : Value) (n : Nat) (xs : List Value) (hseg : Sg w size v n xs) (u : Value) (m : Nat) (ys : List Value) (hu : Sg w size u m ys) (h1 : ∀ y ∈ ys, y.oneCell' = true)
    (h63 : n + m ≤ maxLen) (hbytes : (n + m) * bytes ≤ 140737488355328) :
    ∃ v' w', (Builtin.append_ #[t, t] ty #[v, u]).run P w = .ok v' w' ∧ Sg w' size v' (n + m) (xs ++ ys) ∧ (∀ g, vblk v' = some g → vblk v = some g ∨ w.heap.size ≤ g) ∧ Keeps (fun k => vblk v = some k) w w' := by
  rcases Nat.eq_zero_or_pos m with rfl | hm
  · obtain ⟨hyl, bo, bc, rfl, -, -, -⟩ := hu
    obtain rfl : ys = [] := List.eq_nil_of_length_eq_zero (by simpa using hyl)
    have hv := hseg
    obtain ⟨hl, ao, cap, rfl, hnc, hcm, -⟩ := hseg
    refine ⟨.slice ao n cap, w, ?_, by simpa using hv, fun g h => .inl h, Keeps.refl _ _⟩
    cases ao <;> cases bo <;> simp [Builtin.append_, run_underlying ht, sizeOf, typeInfo, hi, Builtin.lenOf, Builtin.firstCells, hnc, storeCells, loadCells, loadCellsFrom]
  · obtain ⟨g, off, cap, rfl, -, -, -, hgl, hc, -⟩ := hu.open hm
    obtain ⟨g', o, cap', w', hrun, hs, hv, hg, hk⟩ := run_append_sg (P := P) w t ty e i z size bytes ht hi hz hsize hby hzs hsz v n xs hseg ⟨g, off, none⟩ m cap ys hu.len
      (fun j y hj => by
        have hl := (List.getElem?_eq_some_iff.1 hj).1
        rw [hu.len] at hl
        rw [Addr.add_lit, (hc j hl).1]; exact hj) h1 hm h63 hbytes
    exact ⟨_, w', hrun, hs, fun g hg' => by rw [hv] at hg'; obtain rfl := Option.some.inj hg'; exact hg, hk⟩

/-- append, as the walk meets it -/
theorem wpList_append_any {P : Program} (w : World) {ops : Array Oper} {rest : List Oper} {o : Oper} {a : Act} {Q : Exit → Act → World → Prop}
    (hg : o.guard = none) (s x : Operand) (t : TypeId) (hop : o.op = Op.call { callee := Callee.builtin Builtin.append, args := #[s, x], argTypes := #[t, t] })
    (e : TypeId) (i : TypeInfo) (z : Value) (size bytes : Nat) (h1 : P.underlying t = some (.slice e)) (h2 : P.info? e = some i) (h3 : i.zero = some z) (h4 : i.size = size) (h5 : i.bytes = bytes) (h6 : z.cells.size = size) (h7 : 0 < size)
    (v : Value) (n : Nat) (xs : List Value) (hs : a.eval s = v) (hseg : Sg w size v n xs) (u : Value) (m : Nat) (ys : List Value) (hx : a.eval x = u) (hu : Sg w size u m ys) (h1c : ∀ y ∈ ys, y.oneCell' = true)
    (b1 : n + m ≤ maxLen) (b2 : (n + m) * bytes ≤ 140737488355328)
    (hK : ∀ v' w', Sg w' size v' (n + m) (xs ++ ys) → (∀ g, vblk v' = some g → vblk v = some g ∨ w.heap.size ≤ g) → Keeps (fun k => vblk v = some k) w w' → wpList P ops Q rest (a.put o.dst v') w') :
    wpList P ops Q (o :: rest) a w := by
  refine wpList_plain hg fun K hK' => ?_
  obtain ⟨v', w', hrun, r1, r2, r3⟩ := run_append_any (P := P) w t o.type e i z size bytes h1 h2 h3 h4 h5 h6 h7 v n xs hseg u m ys hu h1c b1 b2
  unfold Oper.wp
  simp [execOp, hop, resolve, invoke, builtin, hs, hx, hrun, Result.andThen]
  exact hK' _ _ (hK v' w' r1 r2 r3)
end Go.Proofs.YtkhdhiddhnmdkaaGreatDoor
