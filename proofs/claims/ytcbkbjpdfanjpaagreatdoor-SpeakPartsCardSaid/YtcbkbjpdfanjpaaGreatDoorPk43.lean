/-
SpeakParts: what lies in memory: the talk, the told messages.
-/
import Derived.Test.YtcbkbjpdfanjpaaGreatDoorPk38
import Derived.Test.YtcbkbjpdfanjpaaGreatDoorPk42
import Derived.Test.YtcbkbjpdfanjpaaGreatDoorPk02
namespace Go.Proofs.YtcbkbjpdfanjpaaGreatDoor
open Go.RowKit HelP
set_option maxRecDepth 100000
namespace Sp
open Pt
open Mg (FV NN uv bv tR tM zM)
abbrev tK : TypeId := 26
theorem load_range {P : Program} {ops : Array Oper} {rest : List Oper} {o : Oper} {a : Act} {w : World} {Q : Exit → Act → World → Prop} {b off n : Nat} {T : TypeId} {d : TypeDesc} {x : Operand} {cs : List Value} (hb : w.rangeAt b off cs)
    (hu : P.underlying T = some d) (hw : d.isRow = true) (hi : (P.info? T).map (·.size) = some n) (hl : cs.length = n)
    (hg : o.guard = none) (ho : o.op = .load T x) (hx : a.eval x = .pointer (some ⟨b, off, none⟩)) (h : wpList P ops Q rest (a.put o.dst (.agg cs.toArray)) w) : wpList P ops Q (o :: rest) a w :=
  wpList_plain hg fun K hK => by
    unfold Oper.wp execOp
    simp only [ho, hx, run_loadAt_mid w b off T cs _ hb hu hw (by rw [hi, hl]), Sem.run_bind, Sem.run_pure, Result.andThen_ok, Oper.upon]
    exact hK _ _ h
def tlk (al : Option Addr) (nl cl : Nat) (key : S) (K : Int) (ac : Option Addr) (nc cc : Nat) : List Value := [.slice al nl cl] ++ byv key ++ [.int .i64 K, .slice ac nc cc]
theorem tlk_cells {w : World} {b : Nat} {al : Option Addr} {nl cl : Nat} {key : S} {K : Int} {ac : Option Addr} {nc cc : Nat} (h : Blk w b tK (tlk al nl cl key K ac nc cc)) (hk : key.length = 32) :
    w.cell? ⟨b, 0, none⟩ = some (.slice al nl cl) ∧ w.cell? ⟨b, 33, none⟩ = some (.int .i64 K) ∧ w.cell? ⟨b, 34, none⟩ = some (.slice ac nc cc) ∧ w.rangeAt b 1 (byv key) := by
  have e : ∀ i v, [Value.int .i64 K, .slice ac nc cc][i]? = some v → (tlk al nl cl key K ac nc cc)[33 + i]? = some v := fun i v hv => by
    unfold tlk
    rw [List.getElem?_append_right (by rw [List.length_append, byv_len, hk]; show 33 ≤ _; omega), List.length_append, byv_len, hk]
    rw [show 33 + i - ([Value.slice al nl cl].length + 32) = i by show 33 + i - 33 = i; omega]
    exact hv
  exact ⟨h.cell 0 _ rfl, h.cell 33 _ (e 0 _ rfl), h.cell 34 _ (e 1 _ rfl), blk_mid (pre := [.slice al nl cl]) (mid := byv key) h⟩
/-- a slice of messages that came in -/
def MsgsAt (W : World) (a : Option Addr) (n : Nat) : Prop := ∀ i, i < n → ∃ b off, a = some ⟨b, off, none⟩ ∧ b < W.heap.size ∧ ∃ (k : Int) (u : List Nat) (s : List S) (ns : List (List S)) (bs : List Bool) (au aq an ab : Option Addr) (nu cu nq cq nn cn nb cb : Nat),
  W.rangeAt b (off + i * 5) [.int .i64 k, .slice au nu cu, .slice aq nq cq, .slice an nn cn, .slice ab nb cb] ∧ FV (fun _ => False) W u s ns bs au aq an ab nu cu nq cq nn cn nb cb ∧ ∀ x ∈ u, x < 4294967296
/-- a slice of numbers that came in -/
def CutsAt (W : World) (a : Option Addr) (n : Nat) : Prop := ∀ i, i < n → ∃ g off z, a = some ⟨g, off, none⟩ ∧ W.cell? ⟨g, off + i, none⟩ = some (.int .i64 z) ∧ g < W.heap.size
/-- a told message's cells -/
def EV (F : Nat → Prop) (w : World) (q : Q) (cs : List Value) : Prop := ∃ (au aq an ab : Option Addr) (nu cu nq cq nn cn nb cb : Nat), cs = [.int .i64 (q.kn : Nat), .slice au nu cu, .slice aq nq cq, .slice an nn cn, .slice ab nb cb] ∧ FV F w q.u q.s q.n q.b au aq an ab nu cu nq cq nn cn nb cb
theorem EV.keeps {F G : Nat → Prop} {w w' : World} {q : Q} {cs : List Value} (h : EV F w q cs) (hk : Keeps G w w') (hG : ∀ g, g < w.heap.size → G g → F g) : EV F w' q cs := by
  obtain ⟨au, aq, an, ab, nu, cu, nq, cq, nn, cn, nb, cb, e, hv⟩ := h
  exact ⟨au, aq, an, ab, nu, cu, nq, cq, nn, cn, nb, cb, e, hv.keeps hk hG⟩
theorem EV.below {F : Nat → Prop} {w w' : World} {q : Q} {cs : List Value} (h : EV F w q cs) (hb : Below w.heap.size w w') : EV F w' q cs :=
  h.keeps (Keeps.of_below (F := fun _ => False) hb) (fun _ _ e => e.elim)
theorem EV.mono {F F' : Nat → Prop} {w : World} {q : Q} {cs : List Value} (h : EV F w q cs) (hF : ∀ g, g < w.heap.size → F' g → F g) : EV F' w q cs := by
  obtain ⟨au, aq, an, ab, nu, cu, nq, cq, nn, cn, nb, cb, e, hv⟩ := h
  exact ⟨au, aq, an, ab, nu, cu, nq, cq, nn, cn, nb, cb, e, hv.mono hF⟩
theorem EV.five {F : Nat → Prop} {w : World} {q : Q} {cs : List Value} (h : EV F w q cs) : cs.length = 5 ∧ ∀ v ∈ cs, v.oneCell' = true := by
  obtain ⟨au, aq, an, ab, nu, cu, nq, cq, nn, cn, nb, cb, rfl, hv⟩ := h
  exact ⟨rfl, Mg.sls_one _ _ _ _ _ _ _ _ _ _ _ _ _⟩
/-- the told messages -/
structure TD (F : Nat → Prop) (w : World) (V : Value) (xs : List Value) (qs : List Q) : Prop where
  sg : Sg w 5 V qs.length xs
  ok : ∀ q ∈ qs, q.ok
  el : ∀ (i : Nat) (q : Q), qs[i]? = some q → ∃ cs, (∀ (j : Nat) (v : Value), cs[j]? = some v → xs[i * 5 + j]? = some v) ∧ EV (fun k => F k ∨ vblk V = some k) w q cs
theorem TD.keeps {F G : Nat → Prop} {w w' : World} {V : Value} {xs : List Value} {qs : List Q} (h : TD F w V xs qs) (hk : Keeps G w w') (hG : ∀ g, g < w.heap.size → G g → F g) (hV : ∀ g, vblk V = some g → ¬ F g) : TD F w' V xs qs :=
  ⟨h.sg.keeps hk (fun g hg e => hV g hg (hG g (h.sg.lt hg) e)), h.ok, fun i q hq => by
    obtain ⟨cs, h1, h2⟩ := h.el i q hq
    exact ⟨cs, h1, h2.keeps hk (fun g hg e => .inl (hG g hg e))⟩⟩
theorem TD.below {F : Nat → Prop} {w w' : World} {V : Value} {xs : List Value} {qs : List Q} (h : TD F w V xs qs) (hb : Below w.heap.size w w') : TD F w' V xs qs :=
  ⟨h.sg.below hb, h.ok, fun i q hq => by
    obtain ⟨cs, h1, h2⟩ := h.el i q hq
    exact ⟨cs, h1, h2.below hb⟩⟩
theorem TD.mono {F F' : Nat → Prop} {w : World} {V : Value} {xs : List Value} {qs : List Q} (h : TD F w V xs qs) (hF : ∀ g, g < w.heap.size → F' g → F g) : TD F' w V xs qs :=
  ⟨h.sg, h.ok, fun i q hq => by
    obtain ⟨cs, h1, h2⟩ := h.el i q hq
    exact ⟨cs, h1, h2.mono (fun g hg e => e.imp (hF g hg) id)⟩⟩
theorem TD.nil (F : Nat → Prop) (w : World) : TD F w (.slice none 0 0) [] [] := ⟨Sg.nil w 5, (fun q hq => by cases hq), fun i q hq => (by cases hq)⟩
theorem TD.push {F : Nat → Prop} {w w5 : World} {V v' : Value} {xs cs : List Value} {qs : List Q} {q : Q} (h : TD F w V xs qs) (hq : q.ok) (he : EV (fun k => F k ∨ vblk V = some k) w q cs)
    (hs : Sg w5 5 v' (qs.length + 1) (xs ++ cs)) (hv : ∀ g, vblk v' = some g → vblk V = some g ∨ w.heap.size ≤ g) (hk : Keeps (fun z => vblk V = some z) w w5) : TD F w5 v' (xs ++ cs) (qs ++ [q]) := by
  have old : ∀ {q : Q} {cs : List Value}, EV (fun k => F k ∨ vblk V = some k) w q cs → EV (fun k => F k ∨ vblk v' = some k) w5 q cs := fun he => by
    have h1 := he.mono (F' := fun k => (F k ∨ vblk V = some k) ∨ vblk v' = some k) (fun g hg e => by
      rcases e with e | e
      · exact e
      · rcases hv g e with e' | e'
        · exact .inr e'
        · omega)
    have h2 := h1.keeps hk (fun g _ e => .inl (.inr e))
    exact h2.mono (fun g _ e => e.elim (fun e => .inl (.inl e)) .inr)
  have hxl : xs.length = qs.length * 5 := h.sg.len
  refine ⟨by rw [List.length_append]; exact hs, fun z hz => ?_, fun i z hz => ?_⟩
  · rcases List.mem_append.1 hz with hz | hz
    · exact h.ok z hz
    · rw [List.mem_singleton] at hz
      rw [hz]; exact hq
  · by_cases hi : i < qs.length
    · rw [List.getElem?_append_left hi] at hz
      obtain ⟨cs0, h1, h2⟩ := h.el i z hz
      refine ⟨cs0, fun j v hj => ?_, old h2⟩
      have h3 := h1 j v hj
      rw [List.getElem?_append_left (List.getElem?_eq_some_iff.1 h3).1]
      exact h3
    · rw [List.getElem?_append_right (by omega)] at hz
      have hi2 : i - qs.length = 0 := by
        have := (List.getElem?_eq_some_iff.1 hz).1
        simp at this
        omega
      rw [hi2] at hz
      obtain rfl : q = z := by simpa using hz
      refine ⟨cs, fun j v hj => ?_, old he⟩
      have e5 : i * 5 + j - xs.length = j := by
        have e : i = qs.length := by omega
        rw [hxl, e]; omega
      rw [List.getElem?_append_right (by omega), e5]
      exact hj
/-- a told message's cells in the slice's block -/
theorem TD.at {F : Nat → Prop} {w : World} {V : Value} {xs : List Value} {qs : List Q} {i : Nat} {q : Q} (h : TD F w V xs qs) (hi : qs[i]? = some q) :
    ∃ g off cap cs, V = .slice (some ⟨g, off, none⟩) qs.length cap ∧ g < w.heap.size ∧ w.rangeAt g (off + i * 5) cs ∧ EV (fun k => F k ∨ vblk V = some k) w q cs := by
  have hil := (List.getElem?_eq_some_iff.1 hi).1
  obtain ⟨cs, h1, h2⟩ := h.el i q hi
  obtain ⟨hl, ao, cap, e, c1, c2, c3⟩ := h.sg
  rcases c3 with c3 | ⟨g, off, e2, hg, -, hx⟩
  · omega
  · subst e2
    refine ⟨g, off, cap, cs, e, hg, fun j v hj => ?_, h2⟩
    have hj5 : j < 5 := by rw [← h2.five.1]; exact (List.getElem?_eq_some_iff.1 hj).1
    have h3 := h1 j v hj
    rw [← hx (i * 5 + j) (by omega), ← Nat.add_assoc] at h3
    exact h3
/-- the message that stands for what may not be -/
def wrong : Q := ⟨2, [115], [], [[119, 114, 111, 110, 103]], [], []⟩
theorem wrong_ok : wrong.ok := ⟨by decide, by simp [wrong, Ms.fits], ⟨⟨⟨by decide, by decide⟩, ⟨by decide, by decide⟩⟩, by decide, by decide, by decide, by decide⟩⟩
/-- what Few and Check make of a message -/
theorem cut_ok' {k : Int} {ls : S} {u : List Nat} {s : List S} {n : List (List S)} {b : List Bool} (hls : Ms.letters k = some ls) (hf : Ms.fits ls (u.take 9) (Fe.fS s) (Fe.fN n) (b.take 9)) (hub : ∀ x ∈ u, x < 4294967296) :
    ∃ q : Q, (q.kn : Int) = k ∧ q.u = u.take 9 ∧ q.s = Fe.fS s ∧ q.n = Fe.fN n ∧ q.b = b.take 9 ∧ q.ok := by
  have hlo := Ms.letters_ok hls
  have hk : ((k.toNat : Nat) : Int) = k := by omega
  have sh := Fe.few_short u s n b
  refine ⟨⟨k.toNat, ls, u.take 9, Fe.fS s, Fe.fN n, b.take 9⟩, hk, rfl, rfl, rfl, rfl, ⟨by rw [hk]; exact hls, hf, ⟨⟨⟨?_, sh.s.2⟩, ⟨?_, fun l hl => (sh.n.2 l hl).1⟩⟩, ?_, ?_, fun x hx => hub x (List.mem_of_mem_take hx), hlo.2.2.1⟩⟩⟩
  · exact Nat.le_trans sh.s.1 (by decide)
  · exact Nat.le_trans sh.n.1 (by decide)
  · exact Nat.le_trans sh.u (by decide)
  · exact Nat.le_trans sh.b (by decide)
/-- what is given -/
structure P0 (W : World) (ad : Nat → Addr) (Bg : List Int) (Or : List Nat) (key : S) (al : Option Addr) (nl : Nat) (ac : Option Addr) (nc : Nat) : Prop where
  es : ES W ad
  pc : PC Bg Or W
  rows : Mg.RowsAt W
  msgs : MsgsAt W al nl
  cuts : CutsAt W ac nc
  key : key.length = 32
abbrev D3 (hb wb rb : Nat) : Nat → Prop := fun g => g = hb ∨ g = wb ∨ g = rb
/-- while messages are told -/
structure LB (W0 : World) (ad : Nat → Addr) (tb hb wb rb : Nat) (tl : List Value) (key : S) (c : Nat) (sw : Bool) (V : Value) (xs : List Value) (qs : List Q) (w : World) : Prop where
  b : Below W0.heap.size W0 w
  t : Blk w tb tK tl
  h : HSt ad w hb (.wait [] 0)
  wr : Blk w wb tWr (lnC c sw (kAt key sw) [])
  rd : Blk w rb tRd (rdC 0 false kz [])
  td : TD (D3 hb wb rb) w V xs qs
  vb : ∀ g, vblk V = some g → rb < g
  lt : W0.heap.size ≤ tb ∧ tb < hb ∧ hb < wb ∧ wb < rb
section
variable {W0 : World} {ad : Nat → Addr} {tb hb wb rb : Nat} {tl : List Value} {key : S} {c : Nat} {sw : Bool} {V : Value} {xs : List Value} {qs : List Q} {w w' : World}
theorem LB.hlt (h : LB W0 ad tb hb wb rb tl key c sw V xs qs w) : hb < w.heap.size ∧ wb < w.heap.size ∧ rb < w.heap.size := by
  have := h.rd.lt
  have := h.lt
  omega
theorem LB.below (h : LB W0 ad tb hb wb rb tl key c sw V xs qs w) (hb' : Below w.heap.size w w') : LB W0 ad tb hb wb rb tl key c sw V xs qs w' :=
  ⟨h.b.trans (Below.mono hb' h.b.size), h.t.below hb' h.t.lt, h.h.below hb', h.wr.below hb' h.wr.lt, h.rd.below hb' h.rd.lt, h.td.below hb', h.vb, h.lt⟩
theorem LB.write {c' : Nat} {sw' : Bool} (h : LB W0 ad tb hb wb rb tl key c sw V xs qs w) (hw : Blk w' wb tWr (lnC c' sw' (kAt key sw') [])) (hk : Keeps (fun q => q = wb) w w') : LB W0 ad tb hb wb rb tl key c' sw' V xs qs w' :=
  ⟨h.b.trans (hk.below h.b.size (fun q _ e => by have := h.lt; omega)), hk.blk h.t (by have := h.lt; omega), h.h.keeps hk (by have := h.lt; omega), hw, hk.blk h.rd (by have := h.lt; omega), h.td.keeps hk (fun g _ e => .inr (.inl e)) (fun g hg e => by have := h.vb g hg; have := h.lt; rcases e with e | e | e <;> omega), h.vb, h.lt⟩
theorem LB.tell {v' : Value} {cs : List Value} {q : Q} (h : LB W0 ad tb hb wb rb tl key c sw V xs qs w) (hq : q.ok) (he : EV (fun k => D3 hb wb rb k ∨ vblk V = some k) w q cs)
    (hs : Sg w' 5 v' (qs.length + 1) (xs ++ cs)) (hv : ∀ g, vblk v' = some g → vblk V = some g ∨ w.heap.size ≤ g) (hk : Keeps (fun z => vblk V = some z) w w') : LB W0 ad tb hb wb rb tl key c sw v' (xs ++ cs) (qs ++ [q]) w' := by
  have hl := h.lt
  have hlt := h.hlt
  have n : ∀ g, g ≤ rb → ¬ vblk V = some g := fun g hg e => by have := h.vb g e; omega
  refine ⟨h.b.trans (hk.below h.b.size (fun q _ e => by have := h.vb q e; omega)), hk.blk h.t (n _ (by omega)), ?_, hk.blk h.wr (n _ (by omega)), hk.blk h.rd (n _ (by omega)), h.td.push hq he hs hv hk, fun g hg => ?_, h.lt⟩
  · exact ⟨hk.blk h.h.1 (n _ (by omega)), h.h.2⟩
  · rcases hv g hg with e | e
    · exact h.vb g e
    · omega
/-- a message that came in, as Few takes it -/
theorem LB.msg {al : Option Addr} {nl : Nat} (h : LB W0 ad tb hb wb rb tl key c sw V xs qs w) (hm : MsgsAt W0 al nl) (i : Nat) (hi : i < nl) : ∃ b off, al = some ⟨b, off, none⟩ ∧ ∃ (k : Int) (u : List Nat) (s : List S) (ns : List (List S)) (bs : List Bool) (au aq an ab : Option Addr) (nu cu nq cq nn cn nb cb : Nat),
    (∀ w', Below w.heap.size w w' → w'.rangeAt b (off + i * 5) [.int .i64 k, .slice au nu cu, .slice aq nq cq, .slice an nn cn, .slice ab nb cb]) ∧ FV (fun k => D3 hb wb rb k ∨ vblk V = some k) w u s ns bs au aq an ab nu cu nq cq nn cn nb cb ∧ ∀ x ∈ u, x < 4294967296 := by
  obtain ⟨b, off, e, hbl, k, u, s, ns, bs, au, aq, an, ab, nu, cu, nq, cq, nn, cn, nb, cb, hr, hv, hu⟩ := hm i hi
  refine ⟨b, off, e, k, u, s, ns, bs, au, aq, an, ab, nu, cu, nq, cq, nn, cn, nb, cb, fun w' hb' j v hj => ?_, ?_, hu⟩
  · rw [hb'.cell (p := ⟨b, off + i * 5 + j, none⟩) (Nat.lt_of_lt_of_le hbl h.b.size), h.b.cell (p := ⟨b, off + i * 5 + j, none⟩) hbl]
    exact hr j v hj
  · refine (hv.mono (F' := fun k => D3 hb wb rb k ∨ vblk V = some k) (fun g hg e => ?_)).below h.b
    have hl := h.lt
    rcases e with (e | e | e) | e
    · omega
    · omega
    · omega
    · have := h.vb g e; omega
theorem LB.row {mb : Nat} (h : LB W0 ad tb hb wb rb tl key c sw V xs qs w) (ht : TD (fun g => D3 hb wb rb g ∨ g = mb) w V xs qs) (hk : Keeps (fun q => q = mb) w w') (hm : rb < mb) (hv : ∀ g, vblk V = some g → g < mb) : LB W0 ad tb hb wb rb tl key c sw V xs qs w' := by
  have hl := h.lt
  refine ⟨h.b.trans (hk.below h.b.size (fun q _ e => by omega)), hk.blk h.t (by omega), ⟨hk.blk h.h.1 (by omega), h.h.2⟩, hk.blk h.wr (by omega), hk.blk h.rd (by omega), (ht.keeps hk (fun g _ e => .inr e) (fun g hg e => ?_)).mono (fun _ _ e => .inl e), h.vb, h.lt⟩
  have := h.vb g hg
  have := hv g hg
  rcases e with (e | e | e) | e <;> omega
theorem LB.fresh (h : LB W0 ad tb hb wb rb tl key c sw V xs qs w) : ∀ g, w.heap.size ≤ g → ¬ (D3 hb wb rb g ∨ vblk V = some g) := fun g hg e => by
  have hl := h.hlt
  rcases e with (e | e | e) | e
  · omega
  · omega
  · omega
  · have := h.td.sg.lt e; omega
end
/-- while it is heard -/
structure LH (W0 : World) (ad : Nat → Addr) (tb hb wb rb : Nat) (tl : List Value) (key : S) (V : Value) (xs : List Value) (qs : List Q) (c : Nat) (sr : Bool) (st : St) (rs : S) (w : World) : Prop where
  b : Below W0.heap.size W0 w
  t : Blk w tb tK tl
  h : HSt ad w hb st
  rd : Blk w rb tRd (rdC c sr (kAt key sr) rs)
  td : TD (D3 hb wb rb) w V xs qs
  vb : ∀ g, vblk V = some g → rb < g
  lt : W0.heap.size ≤ tb ∧ tb < hb ∧ hb < wb ∧ wb < rb
section
variable {W0 : World} {ad : Nat → Addr} {tb hb wb rb : Nat} {tl : List Value} {key : S} {c : Nat} {sr : Bool} {st : St} {rs : S} {V : Value} {xs : List Value} {qs : List Q} {w w' : World}
theorem LH.below (h : LH W0 ad tb hb wb rb tl key V xs qs c sr st rs w) (hb' : Below w.heap.size w w') : LH W0 ad tb hb wb rb tl key V xs qs c sr st rs w' :=
  ⟨h.b.trans (Below.mono hb' h.b.size), h.t.below hb' h.t.lt, h.h.below hb', h.rd.below hb' h.rd.lt, h.td.below hb', h.vb, h.lt⟩
theorem LH.read {c' : Nat} {sr' : Bool} {rs' : S} (h : LH W0 ad tb hb wb rb tl key V xs qs c sr st rs w) (hw : Blk w' rb tRd (rdC c' sr' (kAt key sr') rs')) (hk : Keeps (fun q => q = rb) w w') : LH W0 ad tb hb wb rb tl key V xs qs c' sr' st rs' w' :=
  ⟨h.b.trans (hk.below h.b.size (fun q _ e => by have := h.lt; omega)), hk.blk h.t (by have := h.lt; omega), h.h.keeps hk (by have := h.lt; omega), hw, h.td.keeps hk (fun g _ e => .inr (.inr e)) (fun g hg e => by have := h.vb g hg; have := h.lt; rcases e with e | e | e <;> omega), h.vb, h.lt⟩
theorem LH.hear {st' : St} (h : LH W0 ad tb hb wb rb tl key V xs qs c sr st rs w) (hw : HSt ad w' hb st') (hk : Keeps (fun q => q = hb) w w') : LH W0 ad tb hb wb rb tl key V xs qs c sr st' rs w' :=
  ⟨h.b.trans (hk.below h.b.size (fun q _ e => by have := h.lt; omega)), hk.blk h.t (by have := h.lt; omega), hw, hk.blk h.rd (by have := h.lt; omega), h.td.keeps hk (fun g _ e => .inl e) (fun g hg e => by have := h.vb g hg; have := h.lt; rcases e with e | e | e <;> omega), h.vb, h.lt⟩
theorem LB.start (h : LB W0 ad tb hb wb rb tl key c sr V xs qs w) : LH W0 ad tb hb wb rb tl key V xs qs 0 false (.wait [] 0) [] w :=
  ⟨h.b, h.t, h.h, h.rd, h.td, h.vb, h.lt⟩
end
/-- what is to be heard from the c-th packet on -/
def rst (Bg : List Int) (Or : List Nat) (key : S) (K : Int) (qs : List Q) (c : Nat) : S := strm Bg Or key K c ((qs.drop c).map Q.p)
theorem rst_next {Bg : List Int} {Or : List Nat} {key : S} {K : Int} {qs : List Q} {c : Nat} {q : Q} (h : qs[c]? = some q) : rst Bg Or key K qs c = pk Bg Or key K c q.p ++ rst Bg Or key K qs (c + 1) := by
  have hl := (List.getElem?_eq_some_iff.1 h)
  obtain ⟨h1, h2⟩ := hl
  unfold rst
  rw [List.drop_eq_getElem_cons h1, h2, List.map_cons]
  rfl
theorem rst_end {Bg : List Int} {Or : List Nat} {key : S} {K : Int} {qs : List Q} {c : Nat} (h : qs.length ≤ c) : rst Bg Or key K qs c = [] := by
  unfold rst
  rw [List.drop_eq_nil_of_le h]
  rfl
/-- no whole packet waits -/
def short (Bg : List Int) (Or : List Nat) (key : S) (K : Int) (qs : List Q) (c : Nat) (rs : S) : Prop := ∀ q, qs[c]? = some q → rs.length < (pk Bg Or key K c q.p).length
end Sp
end Go.Proofs.YtcbkbjpdfanjpaaGreatDoor
