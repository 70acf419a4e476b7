/-
The stream of packets, without the program: what was told, what is still to be heard.
The law's Same of two messages that are the same. (Printed by tools/fc_gen.py.)
-/
import Derived.Test.YtcbkbjpdfanjpaaGreatDoorPk31
import Derived.Test.YtcbkbjpdfanjpaaGreatDoorPk35
import Derived.Test.YtcbkbjpdfanjpaaGreatDoorPk37
import Derived.Test.YtcbkbjpdfanjpaaGreatDoorPk25
namespace Go.Proofs.YtcbkbjpdfanjpaaGreatDoor
open Go.RowKit HelP
set_option maxRecDepth 100000
namespace Sp
open Pt
abbrev S := List UInt8
def kz : S := List.replicate 32 0
def kAt (key : S) (sl : Bool) : S := if sl then key else kz
/-- is the c-th packet sealed? -/
def sl (K : Int) (c : Nat) : Bool := decide (0 ≤ K ∧ K ≤ c)
/-- are packets sealed ahead of the c-th? -/
def slW (K : Int) (c : Nat) : Bool := decide (0 ≤ K ∧ K < c)
theorem slW_next (K : Int) (c : Nat) : slW K (c + 1) = sl K c := by
  unfold slW sl
  congr 1
  apply propext
  omega
theorem sl_off {K : Int} {c : Nat} (h : (c : Int) ≠ K) : slW K c = sl K c := by
  unfold slW sl
  congr 1
  apply propext
  omega
theorem sl_on {K : Int} {c : Nat} (h : (c : Int) = K) : sl K c = true := by
  unfold sl
  rw [decide_eq_true_iff]
  omega
theorem kAt_len {key : S} (h : key.length = 32) (s : Bool) : (kAt key s).length = 32 := by
  cases s
  · rfl
  · exact h
def pk (Bg : List Int) (Or : List Nat) (key : S) (K : Int) (c : Nat) (p : S) : S := pktL Bg Or (sl K c) (kAt key (sl K c)) c p
/-- packets, from the c-th on -/
def strm (Bg : List Int) (Or : List Nat) (key : S) (K : Int) : Nat → List S → S
  | _, [] => []
  | c, p :: r => pk Bg Or key K c p ++ strm Bg Or key K (c + 1) r
section
variable {Bg : List Int} {Or : List Nat} {key : S} {K : Int}
theorem strm_snoc : ∀ (ps : List S) (c : Nat) (p : S), strm Bg Or key K c (ps ++ [p]) = strm Bg Or key K c ps ++ pk Bg Or key K (c + ps.length) p
  | [], c, p => by simp [strm]
  | q :: r, c, p => by
    show pk Bg Or key K c q ++ strm Bg Or key K (c + 1) (r ++ [p]) = (pk Bg Or key K c q ++ strm Bg Or key K (c + 1) r) ++ _
    rw [strm_snoc r (c + 1) p, List.append_assoc, List.length_cons, show c + 1 + r.length = c + (r.length + 1) by omega]
theorem pk_len (c : Nat) (p : S) : 4 ≤ (pk Bg Or key K c p).length ∧ (pk Bg Or key K c p).length ≤ p.length + 40 := by
  unfold pk
  rw [pktL_len]
  have := pd_ok (sl K c) p
  unfold szN
  refine ⟨by omega, ?_⟩
  have : (if sl K c = true then 16 else 0) ≤ 16 := by split <;> decide
  omega
theorem strm_len : ∀ (ps : List S) (c : Nat), (∀ p ∈ ps, p.length ≤ 6000) → (strm Bg Or key K c ps).length ≤ 6040 * ps.length
  | [], _, _ => Nat.le_refl _
  | q :: r, c, h => by
    show (pk Bg Or key K c q ++ strm Bg Or key K (c + 1) r).length ≤ 6040 * (r.length + 1)
    have h1 := strm_len r (c + 1) (fun p hp => h p (List.mem_cons_of_mem _ hp))
    have h2 := (pk_len (Bg := Bg) (Or := Or) (key := key) (K := K) c q).2
    have h3 := h q (by simp)
    rw [List.length_append]
    omega
end
def L11 : S := [83, 83, 72, 45, 50, 46, 48, 45, 120, 13, 10]
def P9 : S := [83, 83, 72, 45, 50, 46, 48, 45, 120]
theorem run_L11 (X : S) : run (L11 ++ X) (.wait [] 0) = (.done P9, X) := by
  rw [run_app]
  rfl
/-- bytes that are still to be fed, a peer's reader, a packets' reader that holds rs: what there is to be heard is R -/
structure HI (rem : S) (st : St) (rs R : S) : Prop where
  X : ∃ X, run rem st = (.done P9, X) ∧ rs ++ X = R
theorem HI.start (X : S) : HI (L11 ++ X) (.wait [] 0) [] X := ⟨⟨X, run_L11 X, rfl⟩⟩
theorem HI.step {a b rs R : S} {st : St} (h : HI (a ++ b) st rs R) : (∀ ad, resL ad (run a st).1 = .nilIface) ∧ HI b (run a st).1 (rs ++ (run a st).2) R ∧ (run a st).2.length ≤ a.length := by
  obtain ⟨X, h1, h2⟩ := h.X
  rw [run_app] at h1
  have hr := run_rest a st
  refine ⟨?_, ?_, run_len a st⟩
  all_goals
    generalize run a st = z at *
    obtain ⟨s, r⟩ := z
    cases s with
    | wait p m =>
      first
        | exact fun _ => rfl
        | (have e : r = [] := hr rfl
           subst e
           exact ⟨⟨X, h1, by rw [List.append_nil]; exact h2⟩⟩)
    | done q =>
      first
        | exact fun _ => rfl
        | (have e : (St.done q, r ++ b) = (St.done P9, X) := h1
           obtain ⟨rfl, rfl⟩ := Prod.mk.inj e |>.imp (fun h => St.done.inj h) id
           exact ⟨⟨b, run_done _ b, by rw [← h2, List.append_assoc]⟩⟩)
    | err c =>
      have e : run b (.err c) = (St.done P9, X) := h1
      rw [run_err] at e
      cases e
theorem HI.fin {rs R : S} {st : St} (h : HI [] st rs R) : st = .done P9 ∧ rs = R := by
  obtain ⟨X, h1, h2⟩ := h.X
  have e : (st, ([] : S)) = (St.done P9, X) := h1
  cases e
  exact ⟨rfl, by rw [← h2, List.append_nil]⟩
theorem HI.pre {rem rs R : S} {st : St} (h : HI rem st rs R) : ∃ X, rs ++ X = R := by
  obtain ⟨X, _, h2⟩ := h.X
  exact ⟨X, h2⟩
theorem HI.eat {rem p rs R : S} {st : St} (h : HI rem st (p ++ rs) (p ++ R)) : HI rem st rs R := by
  obtain ⟨X, h1, h2⟩ := h.X
  exact ⟨⟨X, h1, by rw [List.append_assoc] at h2; exact List.append_cancel_left h2⟩⟩
/-- a told message -/
structure Q where
  kn : Nat
  ls : S
  u : List Nat
  s : List S
  n : List (List S)
  b : List Bool
def Q.p (q : Q) : S := UInt8.ofNat q.kn :: Ms.enc q.ls q.u q.s q.n q.b
structure Q.ok (q : Q) : Prop where
  l : Ms.letters (q.kn : Nat) = some q.ls
  f : Ms.fits q.ls q.u q.s q.n q.b
  m : Mg.Lim q.u q.s q.n q.b q.ls
theorem Q.ok.pl {q : Q} (h : q.ok) : q.p.length ≤ 6000 ∧ q.p ≠ [] := by
  unfold Q.p
  refine ⟨?_, List.cons_ne_nil _ _⟩
  rw [List.length_cons]
  have := Ms.enc_len q.ls q.u q.s q.n q.b h.f h.m.fw.s.2 h.m.fw.n.2
  have := h.m.ll
  omega
end Sp
end Go.Proofs.YtcbkbjpdfanjpaaGreatDoor

namespace Go.Proofs.YtcbkbjpdfanjpaaGreatDoor
open Go.RowKit
set_option maxRecDepth 100000
namespace Fe
open Spl (sv)
open Mg (FV NN bv tR tM)
/-- both messages lie in the call's own variables -/
structure SM (ca cb' : Nat) (k : Int) (u : List Nat) (s : List (List UInt8)) (n : List (List (List UInt8))) (b : List Bool) (au aq an ab bu bq bn bb : Option Addr) (nu cu ns cs nn cn nb cb du ds dn db : Nat) (w wx : World) : Prop where
  a : Blk wx ca tM [.int .i64 k, .slice au nu cu, .slice aq ns cs, .slice an nn cn, .slice ab nb cb]
  c : Blk wx cb' tR [.int .i64 k, .slice bu nu du, .slice bq ns ds, .slice bn nn dn, .slice bb nb db]
  v : FV (fun _ => False) wx u s n b au aq an ab nu cu ns cs nn cn nb cb
  x : FV (fun _ => False) wx u s n b bu bq bn bb nu du ns ds nn dn nb db
  bw : Below w.heap.size w wx
theorem SM.below {ca cb' : Nat} {k : Int} {u : List Nat} {s : List (List UInt8)} {n : List (List (List UInt8))} {b : List Bool} {au aq an ab bu bq bn bb : Option Addr} {nu cu ns cs nn cn nb cb du ds dn db : Nat} {w wx wy : World} (h : SM ca cb' k u s n b au aq an ab bu bq bn bb nu cu ns cs nn cn nb cb du ds dn db w wx) (hb : Below wx.heap.size wx wy) : SM ca cb' k u s n b au aq an ab bu bq bn bb nu cu ns cs nn cn nb cb du ds dn db w wy :=
  ⟨h.a.below hb h.a.lt, h.c.below hb h.c.lt, h.v.below hb, h.x.below hb, h.bw.trans (hb.mono h.bw.size)⟩
theorem below_d (w : World) : Below w.heap.size w w.drew := below_drewN (Below.refl _ _) 1
theorem eq_str (x : List UInt8) : ((by8 x).toList == (by8 x).toList) = true := by simp
set_option maxHeartbeats 16000000 in
theorem same_ok (k : Int) (u : List Nat) (s : List (List UInt8)) (n : List (List (List UInt8))) (b : List Bool) (au aq an ab bu bq bn bb : Option Addr) (nu cu ns cs nn cn nb cb du ds dn db mu ms mn mb : Nat) (w : World)
    (hv : FV (fun _ => False) w u s n b au aq an ab nu cu ns cs nn cn nb cb) (hx : FV (fun _ => False) w u s n b bu bq bn bb mu du ms ds mn dn mb db) (hl : u.length ≤ 100 ∧ s.length ≤ 100 ∧ n.length ≤ 100 ∧ b.length ≤ 100 ∧ ∀ l ∈ n, l.length ≤ 100) :
    Calls Tryz.prog 16 #[.agg #[.int .i64 k, .slice au nu cu, .slice aq ns cs, .slice an nn cn, .slice ab nb cb], .agg #[.int .i64 k, .slice bu mu du, .slice bq ms ds, .slice bn mn dn, .slice bb mb db]] w fun e w' => e = .returned (.bool true) ∧ Below w.heap.size w w' := by
  obtain ⟨p1, p2, p3, p4⟩ := hv.lens
  obtain ⟨q1, q2, q3, q4⟩ := hx.lens
  obtain rfl : nu = mu := by omega
  obtain rfl : ns = ms := by omega
  obtain rfl : nn = mn := by omega
  obtain rfl : nb = mb := by omega
  have HP := Lib.hid (And.intro p1 (And.intro p2 (And.intro p3 (And.intro p4 hl))))
  have HV := Lib.hid (And.intro hv hx)
  have l1 : nu ≤ 100 := by omega
  have l2 : ns ≤ 100 := by omega
  have l3 : nn ≤ 100 := by omega
  have l4 : nb ≤ 100 := by omega
  clear p1 p2 p3 p4 q1 q2 q3 q4 hl hv hx
  go_enter Tryz.func16, Tryz.ntmps16
  go_upto_region 1 with fail
  refine wp_gen (fun wx => SM w.heap.size (w.heap.size + 1) k u s n b au aq an ab bu bq bn bb nu cu ns cs nn cn nb cb du ds dn db w wx) ⟨(Blk.new w tM [.int .i64 k, .slice au nu cu, .slice aq ns cs, .slice an nn cn, .slice ab nb cb]).alloc _, Blk.new2 _ _ tR [.int .i64 k, .slice bu nu du, .slice bq ns ds, .slice bn nn dn, .slice bb nb db], HV.out.1.below (below2 _ _ _), HV.out.2.below (below2 _ _ _), below2 _ _ _⟩ ?_
  intro w1 H1
  generalize w.heap.size + 1 = xb at *
  have a0 := H1.a.cell 0 _ rfl
  have a1 := H1.a.cell 1 _ rfl
  have a2 := H1.a.cell 2 _ rfl
  have a3 := H1.a.cell 3 _ rfl
  have a4 := H1.a.cell 4 _ rfl
  have x0 := H1.c.cell 0 _ rfl
  have x1 := H1.c.cell 1 _ rfl
  have x2 := H1.c.cell 2 _ rfl
  have x3 := H1.c.cell 3 _ rfl
  have x4 := H1.c.cell 4 _ rfl
  go_upto_region 4 with fail
  have HS := Lib.hid H1
  clear H1 a0 a1 a2 a3 a4 x0 x1 x2 x3 x4
  go_loopw [55] (fun v wx => ∃ i : Nat, v = .int .i64 (i : Nat) ∧ i ≤ nu ∧ Hid (SM w.heap.size xb k u s n b au aq an ab bu bq bn bb nu cu ns cs nn cn nb cb du ds dn db w wx)) (fun v _ => nu - (intOf v).toNat)
  case atStart => exact ⟨0, rfl, Nat.zero_le _, HS⟩
  case round =>
    obtain ⟨i, rfl, hi, hr⟩ := hrel
    clear HS
    by_cases hgo : i < nu
    · obtain ⟨y, hy⟩ : ∃ y, u[i]? = some y := ⟨_, List.getElem?_eq_getElem (by have := HP.out; omega)⟩
      have hsy : (Mg.uv u)[i]? = some (.int .u32 (y : Nat)) := by unfold Mg.uv; rw [List.getElem?_map, hy]; rfl
      obtain ⟨g1, o1, rfl, -, -, -, c1⟩ := hr.out.v.u.at hsy
      obtain ⟨g2, o2, rfl, -, -, -, c2⟩ := hr.out.x.u.at hsy
      have a1 := hr.out.a.cell 1 _ rfl
      have x1 := hr.out.c.cell 1 _ rfl
      have HD := Lib.hid (fun q => hr.out.below (below_drewN (Below.refl wr.heap.size wr) q))
      clear hy hsy hr
      go_upto_region 6 with fail
      go_quiet (fail)
      go_wp2_with fail
      go_roundw
      case rel => exact ⟨i + 1, by go_num, by omega, Lib.hid (HD.out _)⟩
      case measure => simp [intOf]; omega
    · obtain rfl : nu = i := by omega
      have x9 := hr.out.c.cell 2 _ rfl
      go_upto_region 10 with fail
      have HS := Lib.hid hr.out
      clear hr x9
      go_loopw [73] (fun v wx => ∃ i : Nat, v = .int .i64 (i : Nat) ∧ i ≤ ns ∧ Hid (SM w.heap.size xb k u s n b au aq an ab bu bq bn bb nu cu ns cs nn cn nb cb du ds dn db w wx)) (fun v _ => ns - (intOf v).toNat)
      case atStart => exact ⟨0, rfl, Nat.zero_le _, HS⟩
      case round =>
        obtain ⟨i, rfl, hi, hr⟩ := hrel
        clear HS
        by_cases hgo : i < ns
        · obtain ⟨y, hy⟩ : ∃ y, s[i]? = some y := ⟨_, List.getElem?_eq_getElem (by have := HP.out; omega)⟩
          have hsy : (sv s)[i]? = some (.string (by8 y)) := by unfold sv; rw [List.getElem?_map, hy]; rfl
          obtain ⟨g1, o1, rfl, -, -, -, c1⟩ := hr.out.v.s.at hsy
          obtain ⟨g2, o2, rfl, -, -, -, c2⟩ := hr.out.x.s.at hsy
          have a1 := hr.out.a.cell 2 _ rfl
          have x1 := hr.out.c.cell 2 _ rfl
          have HD := Lib.hid (fun q => hr.out.below (below_drewN (Below.refl wr.heap.size wr) q))
          have eqs := eq_str y
          clear hy hsy hr
          go_upto_region 12 with fail
          go_quiet (fail)
          go_wp2_with fail
          go_roundw
          case rel => exact ⟨i + 1, by go_num, by omega, Lib.hid (HD.out _)⟩
          case measure => simp [intOf]; omega
        · obtain rfl : ns = i := by omega
          have x9 := hr.out.c.cell 4 _ rfl
          go_upto_region 16 with fail
          have HS := Lib.hid hr.out
          clear hr x9
          go_loopw [91] (fun v wx => ∃ i : Nat, v = .int .i64 (i : Nat) ∧ i ≤ nb ∧ Hid (SM w.heap.size xb k u s n b au aq an ab bu bq bn bb nu cu ns cs nn cn nb cb du ds dn db w wx)) (fun v _ => nb - (intOf v).toNat)
          case atStart => exact ⟨0, rfl, Nat.zero_le _, HS⟩
          case round =>
            obtain ⟨i, rfl, hi, hr⟩ := hrel
            clear HS
            by_cases hgo : i < nb
            · obtain ⟨y, hy⟩ : ∃ y, b[i]? = some y := ⟨_, List.getElem?_eq_getElem (by have := HP.out; omega)⟩
              have hsy : (bv b)[i]? = some (.bool y) := by unfold bv; rw [List.getElem?_map, hy]; rfl
              obtain ⟨g1, o1, rfl, -, -, -, c1⟩ := hr.out.v.b.at hsy
              obtain ⟨g2, o2, rfl, -, -, -, c2⟩ := hr.out.x.b.at hsy
              have a1 := hr.out.a.cell 4 _ rfl
              have x1 := hr.out.c.cell 4 _ rfl
              have HD := Lib.hid (fun q => hr.out.below (below_drewN (Below.refl wr.heap.size wr) q))
              clear hy hsy hr
              go_upto_region 18 with fail
              go_quiet (fail)
              go_wp2_with fail
              go_roundw
              case rel => exact ⟨i + 1, by go_num, by omega, Lib.hid (HD.out _)⟩
              case measure => simp [intOf]; omega
            · obtain rfl : nb = i := by omega
              have x9 := hr.out.c.cell 3 _ rfl
              go_upto_region 22 with fail
              have HS := Lib.hid hr.out
              clear hr x9
              go_loopw [109] (fun v wx => ∃ i : Nat, v = .int .i64 (i : Nat) ∧ i ≤ nn ∧ Hid (SM w.heap.size xb k u s n b au aq an ab bu bq bn bb nu cu ns cs nn cn nb cb du ds dn db w wx)) (fun v _ => nn - (intOf v).toNat)
              case atStart => exact ⟨0, rfl, Nat.zero_le _, HS⟩
              case round =>
                obtain ⟨i, rfl, hi, hr⟩ := hrel
                clear HS
                by_cases hgo : i < nn
                · obtain ⟨nv1, hn1, hl1, hx1⟩ := hr.out.v.n
                  obtain ⟨nv2, hn2, hl2, hx2⟩ := hr.out.x.n
                  obtain ⟨l, hl⟩ : ∃ l, n[i]? = some l := ⟨_, List.getElem?_eq_getElem (by have := HP.out.2.2.1; omega)⟩
                  obtain ⟨y1, hy1⟩ : ∃ x, nv1[i]? = some x := ⟨_, List.getElem?_eq_getElem (by rw [hl1]; have := HP.out.2.2.1; omega)⟩
                  obtain ⟨y2, hy2⟩ : ∃ x, nv2[i]? = some x := ⟨_, List.getElem?_eq_getElem (by rw [hl2]; have := HP.out.2.2.1; omega)⟩
                  obtain ⟨a5, k5, c5, rfl, r5⟩ := hx1 i y1 l hy1 hl
                  obtain ⟨a6, k6, c6, rfl, r6⟩ := hx2 i y2 l hy2 hl
                  obtain rfl : k5 = k6 := by rw [← r5.len, ← r6.len]
                  have hk5 : l.length = k5 := by rw [← Spl.sv_len]; exact r5.len
                  have hk100 : k5 ≤ 100 := by have := HP.out.2.2.2.2.2.2.2.2 l (List.mem_of_getElem? hl); omega
                  obtain ⟨g1, o1, rfl, hg1, -, -, c1⟩ := hn1.at hy1
                  obtain ⟨g2, o2, rfl, hg2, -, -, c2⟩ := hn2.at hy2
                  have a1 := hr.out.a.cell 3 _ rfl
                  have x1 := hr.out.c.cell 3 _ rfl
                  have HW : Hid (∀ wx, Below wr.heap.size wr wx → wx.cell? ⟨g1, o1 + i, none⟩ = some (.slice a5 k5 c5) ∧ Rs (fun _ => False) wx a5 k5 c5 (sv l) ∧ Rs (fun _ => False) wx a6 k5 c6 (sv l)) := Lib.hid fun wx hb => ⟨by rw [hb.cell (p := ⟨g1, o1 + i, none⟩) hg1]; exact c1, r5.below hb, r6.below hb⟩
                  have HL := Lib.hid hk5
                  have HS := Lib.hid (And.intro hr.out (Below.refl wr.heap.size wr))
                  go_upto_region 27 with fail
                  clear hn1 hl1 hx1 hn2 hl2 hx2 hl hy1 hy2 r5 r6 hk5 c1 c2 a1 x1 hg1 hg2 hr
                  go_loopw [125] (fun v wx => ∃ j : Nat, v = .int .i64 (j : Nat) ∧ j ≤ k5 ∧ Hid (SM w.heap.size xb k u s n b au aq (some ⟨g1, o1, none⟩) ab bu bq (some ⟨g2, o2, none⟩) bb nu cu ns cs nn cn nb cb du ds dn db w wx ∧ Below wr.heap.size wr wx)) (fun v _ => k5 - (intOf v).toNat)
                  case atStart => exact ⟨0, rfl, Nat.zero_le _, HS⟩
                  case round =>
                    obtain ⟨j, rfl, hj, hr⟩ := hrel
                    clear HS
                    by_cases hgo2 : j < k5
                    · obtain ⟨y, hy⟩ : ∃ y, l[j]? = some y := ⟨_, List.getElem?_eq_getElem (by rw [HL.out]; exact hgo2)⟩
                      have hsy : (sv l)[j]? = some (.string (by8 y)) := by unfold sv; rw [List.getElem?_map, hy]; rfl
                      have hw3 := HW.out _ hr.out.2
                      obtain ⟨g3, o3, rfl, -, -, -, c3⟩ := hw3.2.1.at hsy
                      obtain ⟨g4, o4, rfl, -, -, -, c4⟩ := hw3.2.2.at hsy
                      have cc := hw3.1
                      have a1 := hr.out.1.a.cell 3 _ rfl
                      have x1 := hr.out.1.c.cell 3 _ rfl
                      have eqs := eq_str y
                      have HD := Lib.hid (fun q => And.intro (hr.out.1.below (below_drewN (Below.refl _ _) q)) (below_drewN hr.out.2 q))
                      clear hy hsy hr hw3
                      go_upto_region 29 with fail
                      go_quiet (fail)
                      go_wp2_with fail
                      go_roundw
                      case rel => exact ⟨j + 1, by go_num, by omega, Lib.hid (HD.out _)⟩
                      case measure => simp [intOf]; omega
                    · obtain rfl : j = k5 := by omega
                      have HD := Lib.hid hr.out.1
                      clear hr
                      go_wp2_with fail
                      go_roundw
                      case rel => exact ⟨i + 1, by go_num, by omega, HD⟩
                      case measure => simp [intOf]; omega
                · obtain rfl : i = nn := by omega
                  have BB := Lib.hid hr.out.bw
                  clear hr
                  go_wp2_with fail
                  go_ret
                  exact ⟨rfl, BB.out⟩
end Fe
end Go.Proofs.YtcbkbjpdfanjpaaGreatDoor
