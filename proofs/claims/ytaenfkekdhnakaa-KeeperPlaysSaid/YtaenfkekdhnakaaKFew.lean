/-
The laws' Few: a config with a few short names.
-/
import Derived.Test.YtaenfkekdhnakaaKRNew
import Derived.Test.YtaenfkekdhnakaaCut
namespace Go.Proofs.Ytaenfkekdhnakaa
open Go.RowKit

/-- the strings of a slice that came in -/
def StrAt (w : World) (ao : Option Addr) (n : Nat) (ns : List ByteArray) : Prop := ns.length = n ∧ ∀ i, i < n → ∃ b off, ao = some ⟨b, off, none⟩ ∧ b < w.heap.size ∧ w.cell? ⟨b, off + i, none⟩ = some (.string (ns.getD i ⟨#[]⟩))
theorem StrAt.below {w w' : World} {ao : Option Addr} {n : Nat} {ns : List ByteArray} (h : StrAt w ao n ns) (hb : Below w.heap.size w w') : StrAt w' ao n ns :=
  ⟨h.1, fun i hi => by
    obtain ⟨b, off, e, hl, hc⟩ := h.2 i hi
    exact ⟨b, off, e, Nat.lt_of_lt_of_le hl hb.size, by rw [World.cell?_of_block (w := w) (w' := w') (a := ⟨b, off + i, none⟩) (hb.block b hl)]; exact hc⟩⟩
def fewN (ns : List ByteArray) : List ByteArray := (ns.take 18).map fun s => s.extract 0 20
theorem fewN_len (ns : List ByteArray) : (fewN ns).length = min 18 ns.length := by unfold fewN; rw [List.length_map, List.length_take]
theorem fewN_get (ns : List ByteArray) (i : Nat) (h : i < ns.length) (h2 : i < 18) : (fewN ns)[i]? = some ((ns.getD i ⟨#[]⟩).extract 0 20) := by
  unfold fewN
  simp [h, h2]
theorem cfg_size : (Try.prog.info? 24).map (·.size) = some 4 := by kernel_rfl
structure FR (w wr : World) (cs : List Value) (ns : List ByteArray) (i : Nat) (vl : Value) : Prop where
  b1 : Blk wr w.heap.size 24 cs
  b2 : Blk wr (w.heap.size + 1) 24 [.slice none 0 0, .int .i64 0, .int .i64 0, .int .i64 0]
  sl : Sg wr 1 vl i (svals ((fewN ns).take i))
  new : ∀ g, vblk vl = some g → w.heap.size + 2 ≤ g
  bel : Below w.heap.size w wr
theorem FR.next {w wr : World} {cs : List Value} {ns : List ByteArray} {i : Nat} {vl : Value} (h : FR w wr cs ns i vl) {o : Obj} {w2 : World} {vl2 : Value} {g' : Nat} {s : ByteArray}
    (hs : (fewN ns)[i]? = some s) (hs2 : Sg w2 1 vl2 (i + 1) (svals ((fewN ns).take i) ++ [.string s])) (hk2 : Keeps (fun k => vblk vl = some k) (wr.alloc o) w2) (hv2 : vblk vl2 = some g') (hg2 : vblk vl = some g' ∨ wr.heap.size + 1 ≤ g') : FR w w2 cs ns (i + 1) vl2 := by
  have z0 := h.b2.lt
  have z1 : (wr.alloc o).heap.size = wr.heap.size + 1 := by simp
  have b1 : Below wr.heap.size wr (wr.alloc o) := (Below.refl _ _).alloc (Nat.le_refl _) _
  have e1 : (fewN ns).take (i + 1) = (fewN ns).take i ++ [s] := by rw [List.take_add_one, hs]; rfl
  have zz := h.bel.size
  refine { b1 := hk2.blk (h.b1.alloc o) (fun e => by have := h.new _ e; omega), b2 := hk2.blk (h.b2.alloc o) (fun e => by have := h.new _ e; omega), sl := ?_, new := ?_, bel := ?_ }
  · rw [e1]; simpa [svals] using hs2
  · intro g hg
    rw [hv2] at hg
    obtain rfl := Option.some.inj hg
    rcases hg2 with h1 | h1
    · exact h.new _ h1
    · omega
  · exact (h.bel.trans (b1.mono zz)).trans (hk2.below (by omega) (fun k hk e => by have := h.new _ e; omega))
set_option maxHeartbeats 4000000 in
set_option maxRecDepth 100000 in
theorem few_ok (ns : List ByteArray) (ao : Option Addr) (n cap : Nat) (f m bt : Int) (w : World) (hs : StrAt w ao n ns) (hn : n ≤ 9223372036854775807) :
    Calls Try.prog 9 #[.agg #[.slice ao n cap, .int .i64 f, .int .i64 m, .int .i64 bt]] w fun e w' => ∃ al cl, e = .returned (.agg #[.slice al (fewN ns).length cl, .int .i64 f, .int .i64 m, .int .i64 bt]) ∧ Sg w' 1 (.slice al (fewN ns).length cl) (fewN ns).length (svals (fewN ns)) ∧
      (∀ g, vblk (.slice al (fewN ns).length cl) = some g → w.heap.size ≤ g) ∧ Below w.heap.size w w' := by
  obtain ⟨j0, hj, hy0, hy1, hy2⟩ := info_parts strInfo
  have J := Lib.hid hj
  have J0 := Lib.hid hy0
  have J1 := Lib.hid hy1
  have J2 := Lib.hid hy2
  clear hj hy0 hy1 hy2
  have HS := Lib.hid hs
  have R0 : Hid (FR w ((w.alloc (.cells #[.slice ao n cap, .int .i64 f, .int .i64 m, .int .i64 bt] 24)).alloc (.cells #[.slice none 0 0, .int .i64 0, .int .i64 0, .int .i64 0] 24)) [.slice ao n cap, .int .i64 f, .int .i64 m, .int .i64 bt] ns 0 (.slice none 0 0)) :=
    { b1 := (Blk.new w _ _).alloc _, b2 := by simpa using Blk.new (w.alloc (.cells #[.slice ao n cap, .int .i64 f, .int .i64 m, .int .i64 bt] 24)) 24 [.slice none 0 0, .int .i64 0, .int .i64 0, .int .i64 0], sl := Sg.nil _ _, new := fun g h => by simp [vblk] at h,
      bel := ((Below.refl _ w).alloc (Nat.le_refl _) _).alloc (by simp) _ }
  have hl : (fewN ns).length = min 18 n := by rw [fewN_len, hs.1]
  obtain ⟨k, hk⟩ : ∃ k, k = (fewN ns).length := ⟨_, rfl⟩
  rw [← hk] at hl ⊢
  have HK := Lib.hid hk
  have hkk : n ≤ k ∨ (18 ≤ k ∧ k < n) := by omega
  have hkn : k ≤ n := by omega
  have hk18 : k ≤ 18 := by omega
  clear hs hk hl
  go_enter Try.func9, Try.ntmps9
  go_upto_region 1 with fail
  refine wp_gen (fun wx => FR w wx [.slice ao n cap, .int .i64 f, .int .i64 m, .int .i64 bt] ns 0 (.slice none 0 0)) R0.out ?_
  rintro w1 r1
  have R1 := Lib.hid r1
  clear r1 R0
  go_wp2_with fail
  go_loopw [3, 4] (fun vl vi wr => ∃ i : Nat, vi = .int .i64 i ∧ i ≤ k ∧ FR w wr [.slice ao n cap, .int .i64 f, .int .i64 m, .int .i64 bt] ns i vl) (fun _ vi _ => k - (intOf vi).toNat)
  case atStart => exact ⟨0, rfl, by omega, R1.out⟩
  case round =>
    clear R1
    obtain ⟨i, rfl, hi, hR⟩ := hrel
    have R := Lib.hid hR
    clear hR
    have c0 := R.out.b1.cell 0 _ rfl
    by_cases hgo : i < k
    · obtain ⟨g, off, hao, hgl, hcell⟩ := HS.out.2 i (by omega)
      subst hao
      have cN : wr.cell? ⟨g, off + i, none⟩ = some (.string (ns.getD i ⟨#[]⟩)) := by
        rw [World.cell?_of_block (w := w) (w' := wr) (a := ⟨g, off + i, none⟩) (R.out.bel.block g hgl)]; exact hcell
      clear hcell
      obtain ⟨nm, hnm⟩ : ∃ nm, nm = ns.getD i ⟨#[]⟩ := ⟨_, rfl⟩
      rw [← hnm] at cN
      have HNM := Lib.hid hnm
      have SL := Lib.hid (R.out.sl.below ((Below.refl _ wr).alloc (Nat.le_refl _) (.cells #[.string (nm.extract 0 20)] 9)))
      clear hnm
      have g1 : ((i : Int) < n) = True := eq_true (by omega)
      have g2 : ((i : Int) < 18) = True := eq_true (by omega)
      go_wp2_with fail
      refine (cut_ok nm 20 _).mono ?_
      rintro e w' ⟨rfl, rfl⟩
      go_wp2_with (at_builtin; refine wpList_append_sg _ rfl (.tmp 16) (.tmp 23) 22 rfl 9 j0 (.string ⟨#[]⟩) 1 16 Try.underlying22 J.out J0.out J1.out J2.out rfl (by decide) u3 _ _ rfl SL.out ⟨wr.heap.size, 0, none⟩ 1 1 [.string (nm.extract 0 20)] rfl rfl ?c1 ?c2 (by decide) ?b1 ?b2 ?grow)
      case c1 => exact lit_cell wr 9 [.string (nm.extract 0 20)]
      case c2 => intro u hu; rw [List.mem_singleton.1 hu]; rfl
      case b1 => unfold maxLen; omega
      case b2 => omega
      case grow =>
        intro g' off2 cap2 w2 hs2 hv2 hg2 hk2
        have hfg : (fewN ns)[i]? = some (nm.extract 0 20) := by rw [HNM.out]; exact fewN_get ns i (by rw [HS.out.1]; omega) (by omega)
        have R2 := Lib.hid (R.out.next hfg hs2 hk2 hv2 (by simpa using hg2))
        clear hs2 hv2 hg2 hk2 SL c0 hfg
        go_wp2_with fail
        go_roundw
        case rel => exact ⟨i + 1, by go_num, by omega, R2.out⟩
        case measure => simp [intOf]; omega
    · obtain rfl : i = k := by omega
      obtain ⟨al, cl, rfl⟩ := R.out.sl.shape
      have p1 := R.out.b1
      have p2 := R.out.b2
      have c1 := p1.cell 1 _ rfl
      have c2 := p1.cell 2 _ rfl
      have c3 := p1.cell 3 _ rfl
      have f0 := p1.free 0
      have d0 := p2.cell 0 _ rfl
      have d1 := p2.cell 1 _ rfl
      have d2 := p2.cell 2 _ rfl
      have d3 := p2.cell 3 _ rfl
      have e0 := p2.free 0
      have e1 := p2.free 1
      have e2 := p2.free 2
      have e3 := p2.free 3
      have hz : w.heap.size + 1 < wr.heap.size := p2.lt
      clear p1 p2
      rcases hkk with q1 | ⟨q1, q2⟩
      all_goals
        go_wp2_with fail
        have B1 := R.out.b1.set 0 (.slice al i cl)
        have B2 := (((((R.out.b2.far (c := w.heap.size) (by omega) 0 (.slice al i cl)).set 0 (.slice al i cl)).set 1 (.int .i64 f)).set 2 (.int .i64 m)).set 3 (.int .i64 bt))
        have K2 : Keeps (fun k => k = w.heap.size ∨ k = w.heap.size + 1) wr (((((wr.setCell ⟨w.heap.size, 0, none⟩ (.slice al i cl)).setCell ⟨w.heap.size + 1, 0, none⟩ (.slice al i cl)).setCell ⟨w.heap.size + 1, 1, none⟩ (.int .i64 f)).setCell ⟨w.heap.size + 1, 2, none⟩ (.int .i64 m)).setCell ⟨w.heap.size + 1, 3, none⟩ (.int .i64 bt)) :=
          (((((Keeps.refl _ wr).set _ 0 _ (fun _ => .inl rfl)).set _ 0 _ (fun _ => .inr rfl)).set _ 1 _ (fun _ => .inr rfl)).set _ 2 _ (fun _ => .inr rfl)).set _ 3 _ (fun _ => .inr rfl)
        refine ret_stru rfl B2 Try.underlying24 cfg_size rfl rfl ⟨al, cl, rfl, ?_, ?_, ?_⟩
        · have h1 := R.out.sl.keeps K2 (fun g hg e => by have := R.out.new g hg; omega)
          rwa [List.take_of_length_le (by rw [← HK.out]; exact Nat.le_refl _)] at h1
        · intro g hg; have := R.out.new g hg; omega
        · exact R.out.bel.trans (K2.below (by omega) (fun k hk e => by omega))
end Go.Proofs.Ytaenfkekdhnakaa
