/-
message: what a message's fields are in memory; Check of a message that may be.
message: Check of a message that may be.
-/
import Derived.Test.YtcbkbjpdfanjpaaGreatDoorPk24
namespace Go.Proofs.YtcbkbjpdfanjpaaGreatDoor
open Go.RowKit
set_option maxRecDepth 100000
namespace Mg
open Spl (sv)
def uv (l : List Nat) : List Value := l.map fun x => Value.int .u32 (x : Nat)
def bv (l : List Bool) : List Value := l.map Value.bool
def NN (F : Nat → Prop) (w : World) (a : Option Addr) (nn c : Nat) (n : List (List S)) : Prop :=
  ∃ nvs : List Value, Rs F w a nn c nvs ∧ nvs.length = n.length ∧ ∀ (i : Nat) (x : Value) (l : List S), nvs[i]? = some x → n[i]? = some l → ∃ a' k' c', x = Value.slice a' k' c' ∧ Rs F w a' k' c' (sv l)
theorem NN.keeps {F G : Nat → Prop} {w w' : World} {a : Option Addr} {nn c : Nat} {n : List (List S)} (h : NN F w a nn c n) (hk : Keeps G w w') (hG : ∀ g, g < w.heap.size → G g → F g) : NN F w' a nn c n := by
  obtain ⟨nvs, h1, h2, h3⟩ := h
  refine ⟨nvs, h1.keeps hk hG, h2, fun i x l hx hl => ?_⟩
  obtain ⟨a', k', c', e, h4⟩ := h3 i x l hx hl
  exact ⟨a', k', c', e, h4.keeps hk hG⟩
theorem NN.mono {F F' : Nat → Prop} {w : World} {a : Option Addr} {nn c : Nat} {n : List (List S)} (h : NN F w a nn c n) (hF : ∀ g, g < w.heap.size → F' g → F g) : NN F' w a nn c n := by
  obtain ⟨nvs, h1, h2, h3⟩ := h
  refine ⟨nvs, h1.mono hF, h2, fun i x l hx hl => ?_⟩
  obtain ⟨a', k', c', e, h4⟩ := h3 i x l hx hl
  exact ⟨a', k', c', e, h4.mono hF⟩
theorem NN.len {F : Nat → Prop} {w : World} {a : Option Addr} {nn c : Nat} {n : List (List S)} (h : NN F w a nn c n) : n.length = nn := by
  obtain ⟨nvs, h1, h2, _⟩ := h
  rw [← h2]; exact h1.len
/-- four slices that hold a message's fields -/
structure FV (F : Nat → Prop) (w : World) (u : List Nat) (s : List S) (n : List (List S)) (b : List Bool) (au aq an ab : Option Addr) (nu cu ns cs nn cn nb cb : Nat) : Prop where
  u : Rs F w au nu cu (uv u)
  s : Rs F w aq ns cs (sv s)
  n : NN F w an nn cn n
  b : Rs F w ab nb cb (bv b)
section
variable {F : Nat → Prop} {w : World} {u : List Nat} {s : List S} {n : List (List S)} {b : List Bool} {au aq an ab : Option Addr} {nu cu ns cs nn cn nb cb : Nat}
theorem FV.keeps {G : Nat → Prop} {w' : World} (h : FV F w u s n b au aq an ab nu cu ns cs nn cn nb cb) (hk : Keeps G w w') (hG : ∀ g, g < w.heap.size → G g → F g) : FV F w' u s n b au aq an ab nu cu ns cs nn cn nb cb :=
  ⟨h.u.keeps hk hG, h.s.keeps hk hG, h.n.keeps hk hG, h.b.keeps hk hG⟩
theorem FV.below {w' : World} (h : FV F w u s n b au aq an ab nu cu ns cs nn cn nb cb) (hb : Below w.heap.size w w') : FV F w' u s n b au aq an ab nu cu ns cs nn cn nb cb :=
  h.keeps (Keeps.of_below (F := fun _ => False) hb) (fun _ _ e => e.elim)
theorem FV.mono {F' : Nat → Prop} (h : FV F w u s n b au aq an ab nu cu ns cs nn cn nb cb) (hF : ∀ g, g < w.heap.size → F' g → F g) : FV F' w u s n b au aq an ab nu cu ns cs nn cn nb cb :=
  ⟨h.u.mono hF, h.s.mono hF, h.n.mono hF, h.b.mono hF⟩
theorem FV.lens (h : FV F w u s n b au aq an ab nu cu ns cs nn cn nb cb) : u.length = nu ∧ s.length = ns ∧ n.length = nn ∧ b.length = nb :=
  ⟨by rw [← h.u.len]; simp [uv], by rw [← h.s.len]; simp [sv], h.n.len, by rw [← h.b.len]; simp [bv]⟩
end
/-- what is left of a message's fields, in block f -/
def FB (F : Nat → Prop) (w : World) (f : Nat) (k : Int) (u : List Nat) (s : List S) (n : List (List S)) (b : List Bool) : Prop :=
  ∃ au aq an ab nu cu ns cs nn cn nb cb, Blk w f tF [.int .i64 k, .slice au nu cu, .slice aq ns cs, .slice an nn cn, .slice ab nb cb] ∧ FV F w u s n b au aq an ab nu cu ns cs nn cn nb cb
theorem FB.below {F : Nat → Prop} {w w' : World} {f : Nat} {k : Int} {u : List Nat} {s : List S} {n : List (List S)} {b : List Bool} (h : FB F w f k u s n b) (hb : Below w.heap.size w w') : FB F w' f k u s n b := by
  obtain ⟨au, aq, an, ab, nu, cu, ns, cs, nn, cn, nb, cb, h1, h2⟩ := h
  exact ⟨au, aq, an, ab, nu, cu, ns, cs, nn, cn, nb, cb, h1.below hb h1.lt, h2.below hb⟩
theorem FB.keeps {F G : Nat → Prop} {w w' : World} {f : Nat} {k : Int} {u : List Nat} {s : List S} {n : List (List S)} {b : List Bool} (h : FB F w f k u s n b) (hk : Keeps G w w') (hf : ¬ G f) (hG : ∀ g, g < w.heap.size → G g → F g) : FB F w' f k u s n b := by
  obtain ⟨au, aq, an, ab, nu, cu, ns, cs, nn, cn, nb, cb, h1, h2⟩ := h
  exact ⟨au, aq, an, ab, nu, cu, ns, cs, nn, cn, nb, cb, hk.blk h1 hf, h2.keeps hk hG⟩
theorem FB.us {F : Nat → Prop} {w : World} {f : Nat} {k : Int} {x : Nat} {u : List Nat} {s : List S} {n : List (List S)} {b : List Bool} (h : FB F w f k (x :: u) s n b) (hF : F f) (hu : u.length < 100) :
    Calls Tryz.prog 35 #[.pointer (some ⟨f, 0, none⟩)] w fun e w' => e = .returned (.int .u32 (x : Nat)) ∧ FB F w' f k u s n b ∧ Keeps (fun k => k = f) w w' := by
  obtain ⟨au, aq, an, ab, nu, cu, ns, cs, nn, cn, nb, cb, h1, h2⟩ := h
  obtain rfl : nu = u.length + 1 := h2.lens.1.symm
  refine (fu_ok F f hF _ _ _ _ au u.length cu (.int .u32 (x : Nat)) (uv u) w h1 h2.u (by omega)).mono ?_
  rintro e w' ⟨rfl, a', hb, hs, hk⟩
  exact ⟨rfl, ⟨a', aq, an, ab, u.length, cu - 1, ns, cs, nn, cn, nb, cb, hb, hs, h2.s.keeps hk (fun g _ e => by subst e; exact hF), h2.n.keeps hk (fun g _ e => by subst e; exact hF), h2.b.keeps hk (fun g _ e => by subst e; exact hF)⟩, hk⟩
theorem FB.ss {F : Nat → Prop} {w : World} {f : Nat} {k : Int} {x : S} {u : List Nat} {s : List S} {n : List (List S)} {b : List Bool} (h : FB F w f k u (x :: s) n b) (hF : F f) (hu : s.length < 100) :
    Calls Tryz.prog 39 #[.pointer (some ⟨f, 0, none⟩)] w fun e w' => e = .returned (.string (by8 x)) ∧ FB F w' f k u s n b ∧ Keeps (fun k => k = f) w w' := by
  obtain ⟨au, aq, an, ab, nu, cu, ns, cs, nn, cn, nb, cb, h1, h2⟩ := h
  obtain rfl : ns = s.length + 1 := h2.lens.2.1.symm
  refine (fs_ok F f hF _ _ _ _ aq s.length cs (.string (by8 x)) (sv s) w h1 h2.s (by omega)).mono ?_
  rintro e w' ⟨rfl, a', hb, hs, hk⟩
  exact ⟨rfl, ⟨au, a', an, ab, nu, cu, s.length, cs - 1, nn, cn, nb, cb, hb, h2.u.keeps hk (fun g _ e => by subst e; exact hF), hs, h2.n.keeps hk (fun g _ e => by subst e; exact hF), h2.b.keeps hk (fun g _ e => by subst e; exact hF)⟩, hk⟩
theorem FB.bs {F : Nat → Prop} {w : World} {f : Nat} {k : Int} {x : Bool} {u : List Nat} {s : List S} {n : List (List S)} {b : List Bool} (h : FB F w f k u s n (x :: b)) (hF : F f) (hu : b.length < 100) :
    Calls Tryz.prog 37 #[.pointer (some ⟨f, 0, none⟩)] w fun e w' => e = .returned (.bool x) ∧ FB F w' f k u s n b ∧ Keeps (fun k => k = f) w w' := by
  obtain ⟨au, aq, an, ab, nu, cu, ns, cs, nn, cn, nb, cb, h1, h2⟩ := h
  obtain rfl : nb = b.length + 1 := h2.lens.2.2.2.symm
  refine (fb_ok F f hF _ _ _ _ ab b.length cb (.bool x) (bv b) w h1 h2.b (by omega)).mono ?_
  rintro e w' ⟨rfl, a', hb, hs, hk⟩
  exact ⟨rfl, ⟨au, aq, an, a', nu, cu, ns, cs, nn, cn, b.length, cb - 1, hb, h2.u.keeps hk (fun g _ e => by subst e; exact hF), h2.s.keeps hk (fun g _ e => by subst e; exact hF), h2.n.keeps hk (fun g _ e => by subst e; exact hF), hs⟩, hk⟩
theorem FB.ns {F : Nat → Prop} {w : World} {f : Nat} {k : Int} {x : List S} {u : List Nat} {s : List S} {n : List (List S)} {b : List Bool} (h : FB F w f k u s (x :: n) b) (hF : F f) (hu : n.length < 100) :
    Calls Tryz.prog 41 #[.pointer (some ⟨f, 0, none⟩)] w fun e w' => (∃ a k' c, e = .returned (.slice a k' c) ∧ Rs F w' a k' c (sv x)) ∧ FB F w' f k u s n b ∧ Keeps (fun k => k = f) w w' := by
  obtain ⟨au, aq, an, ab, nu, cu, ns, cs, nn, cn, nb, cb, h1, h2⟩ := h
  obtain rfl : nn = n.length + 1 := h2.lens.2.2.1.symm
  obtain ⟨nvs, hr, hl, hx⟩ := h2.n
  cases nvs with
  | nil => cases hl
  | cons v nvs =>
    obtain ⟨a0, k0, c0, rfl, h0⟩ := hx 0 v x rfl rfl
    refine (fn_ok F f hF _ _ _ _ an n.length cn (.slice a0 k0 c0) nvs w h1 hr (by omega)).mono ?_
    rintro e w' ⟨rfl, a', hb, hs, hk⟩
    refine ⟨⟨a0, k0, c0, rfl, h0.keeps hk (fun g _ e => by subst e; exact hF)⟩, ⟨au, aq, a', ab, nu, cu, ns, cs, n.length, cn - 1, nb, cb, hb, h2.u.keeps hk (fun g _ e => by subst e; exact hF), h2.s.keeps hk (fun g _ e => by subst e; exact hF), ⟨nvs, hs, by simpa using hl, fun i y l hy hl' => ?_⟩, h2.b.keeps hk (fun g _ e => by subst e; exact hF)⟩, hk⟩
    obtain ⟨a1, k1, c1, rfl, h1'⟩ := hx (i + 1) y l (by simpa using hy) (by simpa using hl')
    exact ⟨a1, k1, c1, rfl, h1'.keeps hk (fun g _ e => by subst e; exact hF)⟩
theorem fld_size : (Tryz.prog.info? tF).map (·.size) = some 5 := by kernel_rfl
theorem msg_size : (Tryz.prog.info? tM).map (·.size) = some 5 := by kernel_rfl
/-- short fields that are left -/
structure Fw (s : List S) (n : List (List S)) : Prop where
  s : s.length ≤ 20 ∧ ∀ x ∈ s, x.length ≤ 100
  n : n.length ≤ 20 ∧ ∀ l ∈ n, l.length ≤ 6
theorem Fw.ts {x : S} {s : List S} {n : List (List S)} (h : Fw (x :: s) n) : Fw s n := ⟨⟨by have := h.s.1; rw [List.length_cons] at this; omega, fun y hy => h.s.2 y (List.mem_cons_of_mem _ hy)⟩, h.n⟩
theorem Fw.tn {x : List S} {s : List S} {n : List (List S)} (h : Fw s (x :: n)) : Fw s n := ⟨h.s, ⟨by have := h.n.1; rw [List.length_cons] at this; omega, fun y hy => h.n.2 y (List.mem_cons_of_mem _ hy)⟩⟩
end Mg
end Go.Proofs.YtcbkbjpdfanjpaaGreatDoor

namespace Go.Proofs.YtcbkbjpdfanjpaaGreatDoor
open Go.RowKit
set_option maxRecDepth 100000
namespace Mg
open Spl (sv)
set_option maxHeartbeats 8000000 in
theorem check_ok (k : Int) (ls : S) (u : List Nat) (s : List S) (n : List (List S)) (b : List Bool) (au aq an ab : Option Addr) (nu cu ns cs nn cn nb cb : Nat) (w : World) (hR : RowsAt w) (hls : Ms.letters k = some ls) (hf : Ms.fits ls u s n b) (hw : Fw s n)
    (hv : FV (fun _ => False) w u s n b au aq an ab nu cu ns cs nn cn nb cb) :
    Calls Tryz.prog 33 #[.agg #[.int .i64 k, .slice au nu cu, .slice aq ns cs, .slice an nn cn, .slice ab nb cb]] w fun e w' => e = .returned .nilIface ∧ Below w.heap.size w w' := by
  have P := Lib.hid (fun w' (h : RowsAt w') => fields_ok k ls hls w' h)
  have hlo := Ms.letters_ok hls
  have hln : ls.length ≤ 13 := hlo.2.2.1
  obtain ⟨q1, q2, q3, q4⟩ := fits_len ls u s n b hf
  obtain ⟨p1, p2, p3, p4⟩ := hv.lens
  have C : Hid (∀ w', Calls Tryz.prog 70 #[.agg #[.int .i64 k, .slice au nu cu, .slice aq ns cs, .slice an nn cn, .slice ab nb cb], .string (by8 ls)] w' fun e w'' => e = .returned (.bool true) ∧ Below w'.heap.size w' w'') := Lib.hid fun w' =>
    counted_ok k au aq an ab nu cu ns cs nn cn nb cb ls w' (by omega) (by rw [← p1, q1]; simp [sumC]) (by rw [← p2, q2]; simp [sumC]; omega) (by rw [← p3, q3]; simp [sumC]) (by rw [← p4, q4]; simp [sumC])
  have HH := Lib.hid (And.intro hR (And.intro hf (And.intro hw hv)))
  have HSI : Hid (∀ j (h : j < (by8 ls).size), (((by8 ls)[j]'h).toNat : Int) = ((ls.getD j 0).toNat : Nat)) := Lib.hid fun j h => by rw [by_index]; rfl
  obtain ⟨N, hN⟩ : ∃ N, N = ls.length := ⟨_, rfl⟩
  have hsz : (by8 ls).size = N := by rw [by8_size, hN]
  have HN := Lib.hid hN
  rw [← hN] at hln
  clear q1 q2 q3 q4 p1 p2 p3 p4 hlo hR hls hf hw hv hN
  go_enter Tryz.func33, Tryz.ntmps33
  go_upto_region 1 with fail
  refine wp_gen (fun wx => Blk wx w.heap.size tM [.int .i64 k, .slice au nu cu, .slice aq ns cs, .slice an nn cn, .slice ab nb cb] ∧ Below w.heap.size w wx) ⟨Blk.new w tM [.int .i64 k, .slice au nu cu, .slice aq ns cs, .slice an nn cn, .slice ab nb cb], below1 _ _⟩ ?_
  rintro w1 ⟨O1, B1⟩
  have c0 := O1.cell 0 _ rfl
  go_upto_region 2 with (go_at_call 34; refine (P.out _ (HH.out.1.below B1)).mono ?_; rintro e w2 ⟨rfl, hb2⟩)
  have O2 := O1.below hb2 O1.lt
  have B2 := B1.trans (hb2.mono B1.size)
  clear O1 B1 c0 hb2
  go_upto_region 6 with (first | refine load_wide O2 Tryz.underlying49 rfl msg_size rfl rfl rfl rfl ?_ | (go_at_call 70; refine (C.out _).mono ?_; rintro e w3 ⟨rfl, hb3⟩))
  have O3 := O2.below hb3 O2.lt
  have B3 := B2.trans (hb3.mono B2.size)
  clear O2 B2 hb3
  have hfw : w.heap.size ≤ w3.heap.size := B3.size
  go_upto_region 8 with (refine load_wide O3 Tryz.underlying49 rfl msg_size rfl rfl rfl rfl ?_)
  -- LOOP
  have H4 : Hid (FB (fun q => q = w3.heap.size) (w3.alloc (.cells #[.int .i64 k, .slice au nu cu, .slice aq ns cs, .slice an nn cn, .slice ab nb cb] tF)) w3.heap.size k u s n b ∧ Below w.heap.size w (w3.alloc (.cells #[.int .i64 k, .slice au nu cu, .slice aq ns cs, .slice an nn cn, .slice ab nb cb] tF))) :=
    Lib.hid ⟨⟨_, _, _, _, _, _, _, _, _, _, _, _, Blk.new w3 tF [.int .i64 k, .slice au nu cu, .slice aq ns cs, .slice an nn cn, .slice ab nb cb], (HH.out.2.2.2.mono (fun g hg e => by have := B3.size; omega)).keeps (Keeps.of_below (F := fun _ => False) (B3.alloc B3.size _)) (fun _ _ e => e.elim)⟩, B3.alloc B3.size _⟩
  generalize w3.alloc _ = w4 at *
  generalize w3.heap.size = f at *
  clear O3 B3 C P
  go_upto_region 9 with fail
  go_loopw [5, 6, 30] (fun v5 v6 v30 wx => ∃ (i : Nat) (ug : List Nat) (s' : List S) (n' : List (List S)) (bg : List Bool), v5 = .bool false ∧ v6 = .bool false ∧ v30 = .int .i64 i ∧ i ≤ N ∧ Hid (Ms.fits (ls.drop i) ug s' n' bg ∧ Fw s' n' ∧ FB (fun q => q = f) wx f k u s' n' b ∧ Below w.heap.size w wx ∧ w.heap.size ≤ f)) (fun _ _ v _ => N - (intOf v).toNat)
  case atStart => exact ⟨0, u, s, n, b, rfl, rfl, rfl, Nat.zero_le _, Lib.hid ⟨HH.out.2.1, HH.out.2.2.1, H4.out.1, H4.out.2, hfw⟩⟩
  case round =>
    obtain ⟨i, ug, s', n', bg, rfl, rfl, rfl, hi, hr⟩ := hrel
    clear H4
    by_cases hgo : i < N
    · have hk : i < (by8 ls).size := by omega
      have hby := HSI.out i hk
      have hdr : Hid (ls.drop i = ls.getD i 0 :: ls.drop (i + 1)) := Lib.hid (by
        have hil : i < ls.length := by rw [← HN.out]; exact hgo
        rw [List.drop_eq_getElem_cons hil, List.getD_eq_getElem?_getD, List.getElem?_eq_getElem hil]
        rfl)
      have hr2 : Hid (Ms.fits (ls.getD i 0 :: ls.drop (i + 1)) ug s' n' bg ∧ Fw s' n' ∧ FB (fun q => q = f) wr f k u s' n' b ∧ Below w.heap.size w wr ∧ w.heap.size ≤ f) := Lib.hid (by rw [← hdr.out]; exact hr.out)
      clear hr hdr
      generalize ls.getD i 0 = c at *
      by_cases e1 : c = 117
      · subst e1
        have hby1 : (((by8 ls)[i]'hk).toNat : Int) = 117 := hby
        clear hby
        obtain ⟨hfit, hfw1, hfb, hbb, hlf⟩ := hr2.out
        obtain ⟨x, ug', rfl, hf2, -⟩ := Ms.fits_u hfit
        have H5 := Lib.hid (And.intro hf2 (And.intro hfw1 (And.intro hfb (And.intro hbb hlf))))
        clear hr2 hfit hfw1 hfb hbb hf2
        go_wp2_with fail
        go_roundw
        case rel => exact ⟨i + 1, ug', s', n', bg, rfl, rfl, by go_num, by omega, H5⟩
        case measure => simp [intOf]; omega
      by_cases e2 : c = 98
      · subst e2
        have hby1 : (((by8 ls)[i]'hk).toNat : Int) = 98 := hby
        clear hby e1
        obtain ⟨hfit, hfw1, hfb, hbb, hlf⟩ := hr2.out
        obtain ⟨x, bg', rfl, hf2, -⟩ := Ms.fits_b hfit
        have H5 := Lib.hid (And.intro hf2 (And.intro hfw1 (And.intro hfb (And.intro hbb hlf))))
        clear hr2 hfit hfw1 hfb hbb hf2
        go_wp2_with fail
        go_roundw
        case rel => exact ⟨i + 1, ug, s', n', bg', rfl, rfl, by go_num, by omega, H5⟩
        case measure => simp [intOf]; omega
      by_cases e3 : c = 110
      · subst e3
        have hby1 : (((by8 ls)[i]'hk).toNat : Int) = 110 := hby
        clear hby e1 e2
        obtain ⟨hfit, hfw1, hfb, hbb, hlf⟩ := hr2.out
        obtain ⟨x, nt, rfl, hnm, hf2, -⟩ := Ms.fits_n hfit
        have CN := Lib.hid (FB.ns hfb rfl (by have := hfw1.n.1; rw [List.length_cons] at this; omega))
        have NM : Hid (∀ a k' c' w', Rs (fun q => q = f) w' a k' c' (sv x) → Calls Tryz.prog 71 #[.slice a k' c'] w' fun e w'' => e = .returned (.tuple #[.bool true, .bool true]) ∧ Below w'.heap.size w' w'') := Lib.hid fun a k' c' w' h => names_ok _ a k' c' x w' h (hfw1.n.2 x List.mem_cons_self) hnm
        have H5 := Lib.hid (And.intro hf2 (And.intro hfw1.tn (And.intro hbb hlf)))
        clear hr2 hfit hfw1 hfb hbb hf2 hnm
        go_wp2_with (first | (go_at_call 41; refine CN.out.mono ?_; rintro e w5 ⟨⟨a5, k5, c5, rfl, hs5⟩, hb5, hk5⟩; have H6 := Lib.hid (And.intro hb5 (And.intro hs5 (H5.out.2.2.1.trans (hk5.below H5.out.2.2.1.size (fun q hq e => by have := H5.out.2.2.2; omega))))); clear hs5 hb5 hk5) | (go_at_call 71; refine (NM.out _ _ _ _ H6.out.2.1).mono ?_; rintro e w6 ⟨rfl, hb6⟩))
        have H7 : Hid (Ms.fits (ls.drop (i + 1)) ug s' nt bg ∧ Fw s' nt ∧ FB (fun q => q = f) w6 f k u s' nt b ∧ Below w.heap.size w w6 ∧ w.heap.size ≤ f) := Lib.hid ⟨H5.out.1, H5.out.2.1, H6.out.1.below hb6, H6.out.2.2.trans (hb6.mono H6.out.2.2.size), H5.out.2.2.2⟩
        clear H6 hb6 H5 CN NM
        go_roundw
        case rel => exact ⟨i + 1, ug, s', nt, bg, rfl, rfl, by go_num, by omega, H7⟩
        case measure => simp [intOf]; omega
      obtain ⟨hfit, hfw1, hfb, hbb, hlf⟩ := hr2.out
      obtain ⟨hcc, x, st, rfl, h16, hf2, -⟩ := Ms.fits_s hfit e1 e3 e2
      have CN := Lib.hid (FB.ss hfb rfl (by have := hfw1.s.1; rw [List.length_cons] at this; omega))
      have hxs := by8_size x
      have hx100 := hfw1.s.2 x List.mem_cons_self
      have H5 := Lib.hid (And.intro hf2 (And.intro hfw1.ts (And.intro hbb hlf)))
      clear hr2 hfit hfw1 hfb hbb hf2 e1 e2 e3
      have hcc2 : c = 99 ∨ c = 115 ∨ c = 114 := by rcases hcc with h | h | h <;> simp [h]
      clear hcc
      have fin : Hid (∀ w5, FB (fun q => q = f) w5 f k u st n' b → Keeps (fun k => k = f) wr w5 → Ms.fits (ls.drop (i + 1)) ug st n' bg ∧ Fw st n' ∧ FB (fun q => q = f) w5 f k u st n' b ∧ Below w.heap.size w w5 ∧ w.heap.size ≤ f) := Lib.hid fun w5 hb5 hk5 => ⟨H5.out.1, H5.out.2.1, hb5, H5.out.2.2.1.trans (hk5.below H5.out.2.2.1.size (fun q hq e => by have := H5.out.2.2.2; omega)), H5.out.2.2.2⟩
      rcases hcc2 with rfl | rfl | rfl
      · have hby1 : (((by8 ls)[i]'hk).toNat : Int) = 99 := hby
        have hxe : (by8 x).size = 16 := by rw [hxs]; exact h16 rfl
        clear hby h16 hxs hx100
        go_wp2_with (go_at_call 39; refine CN.out.mono ?_; rintro e w5 ⟨rfl, hb5, hk5⟩)
        have H7 := Lib.hid (fin.out w5 hb5 hk5)
        clear hb5 hk5 H5 CN fin
        go_roundw
        case rel => exact ⟨i + 1, ug, st, n', bg, rfl, rfl, by go_num, by omega, H7⟩
        case measure => simp [intOf]; omega
      · have hby1 : (((by8 ls)[i]'hk).toNat : Int) = 115 := hby
        have hxe : ¬ ((by8 x).size : Int) > 32768 := by omega
        clear hby h16
        go_wp2_with (go_at_call 39; refine CN.out.mono ?_; rintro e w5 ⟨rfl, hb5, hk5⟩)
        have H7 := Lib.hid (fin.out w5 hb5 hk5)
        clear hb5 hk5 H5 CN fin
        go_roundw
        case rel => exact ⟨i + 1, ug, st, n', bg, rfl, by rw [decide_eq_false (by omega)], by go_num, by omega, H7⟩
        case measure => simp [intOf]; omega
      · have hby1 : (((by8 ls)[i]'hk).toNat : Int) = 114 := hby
        have hxe : ¬ ((by8 x).size : Int) > 32768 := by omega
        clear hby h16
        go_wp2_with (go_at_call 39; refine CN.out.mono ?_; rintro e w5 ⟨rfl, hb5, hk5⟩)
        have H7 := Lib.hid (fin.out w5 hb5 hk5)
        clear hb5 hk5 H5 CN fin
        go_roundw
        case rel => exact ⟨i + 1, ug, st, n', bg, rfl, by rw [decide_eq_false (by omega)], by go_num, by omega, H7⟩
        case measure => simp [intOf]; omega
    · obtain rfl : i = N := by omega
      have BB := hr.out.2.2.2.1
      go_wp2_with fail
      go_ret
      exact ⟨rfl, BB⟩
end Mg
end Go.Proofs.YtcbkbjpdfanjpaaGreatDoor
