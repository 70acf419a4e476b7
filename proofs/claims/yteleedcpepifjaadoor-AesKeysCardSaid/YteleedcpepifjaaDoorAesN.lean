/-
Strings as lists of bytes; the number behind one.
-/
import Derived.Test.YteleedcpepifjaaDoorAesR
import Derived.Test.YteleedcpepifjaaDoorBySg
namespace Go.Proofs.YteleedcpepifjaaDoor
open Go.RowKit AesP
set_option maxRecDepth 100000
def natL (s : ByteArray) : List Nat := s.data.toList.map (·.toNat)
def bsL (l : List Nat) : ByteArray := ⟨(l.map UInt8.ofNat).toArray⟩
theorem natL_by (s : ByteArray) : By (natL s) := fun x hx => by
  obtain ⟨b, _, rfl⟩ := List.mem_map.1 hx
  exact b.toNat_lt
theorem natL_len (s : ByteArray) : (natL s).length = s.size := by
  unfold natL
  rw [List.length_map, Array.length_toList]
  rfl
theorem byv_natL (s : ByteArray) : byv s.data.toList = b8 (natL s) := by simp [byv, b8, natL, Function.comp_def]
theorem natL_bsL {l : List Nat} (h : By l) : natL (bsL l) = l := by
  unfold natL bsL
  simp only [List.map_map]
  conv => rhs; rw [← List.map_id l]
  apply List.map_congr_left
  intro x hx
  simp only [Function.comp, UInt8.toNat_ofNat', id]
  exact Nat.mod_eq_of_lt (h x hx)
theorem b8_byv {l : List Nat} (h : By l) : b8 l = byv (l.map UInt8.ofNat) := by
  have e := byv_natL (bsL l)
  rw [natL_bsL h] at e
  rw [← e]; rfl
theorem bsL_natL (s : ByteArray) : bsL (natL s) = s := by
  unfold bsL natL
  simp [Function.comp_def]
def inc : Nat → List Nat → List Nat
  | 0, l => l
  | k + 1, l => if (l.getD k 0 + 1) % 256 = 0 then inc k (l.set k ((l.getD k 0 + 1) % 256)) else l.set k ((l.getD k 0 + 1) % 256)
theorem inc_len : ∀ k l, (inc k l).length = l.length
  | 0, _ => rfl
  | k + 1, l => by unfold inc; split <;> simp [inc_len]
theorem byL_set {l : List Nat} (h : By l) (i v : Nat) (hv : v < 256) : By (l.set i v) := fun x hx => by
  rcases List.mem_or_eq_of_mem_set hx with hx | rfl
  · exact h x hx
  · exact hv
theorem inc_by : ∀ k l, By l → By (inc k l)
  | 0, _, h => h
  | k + 1, l, h => by
    unfold inc
    split
    · exact inc_by k _ (byL_set h _ _ (Nat.mod_lt _ (by decide)))
    · exact byL_set h _ _ (Nat.mod_lt _ (by decide))
/-- what is known of 16 bytes in a slice -/
theorem sg16 {w : World} {v : Value} {l : List Nat} {n : Nat} (h : Sg w 1 v n (b8 l)) (hn : 0 < n) : ∃ g off cap, v = .slice (some ⟨g, off, none⟩) n cap ∧ n ≤ cap := by
  obtain ⟨g, off, cap, hv, hc, _⟩ := h.open hn
  exact ⟨g, off, cap, hv, hc⟩
theorem Sg.at8 {w : World} {l : List Nat} {g off n cap : Nat} (h : Sg w 1 (.slice (some ⟨g, off, none⟩) n cap) n (b8 l)) {i : Nat} (hi : i < n) : w.cell? ⟨g, off + i, none⟩ = some (.int .u8 (l.getD i 0 : Nat)) ∧ w.frozen? ⟨g, off + i, none⟩ = false := by
  have hl := h.len
  obtain ⟨g', off', cap', hv, _, _, _, _, hc, _⟩ := h.open (by omega)
  simp only [Value.slice.injEq, Option.some.injEq, Addr.mk.injEq, true_and, and_true] at hv
  obtain ⟨⟨rfl, rfl⟩, rfl⟩ := hv
  have := hc i (by omega)
  rw [this.1, b8_get l i (by rw [b8_len] at hl; omega)]
  exact ⟨rfl, this.2⟩
theorem Sg.set8 {w : World} {l : List Nat} {g off n cap : Nat} (h : Sg w 1 (.slice (some ⟨g, off, none⟩) n cap) n (b8 l)) (i v : Nat) (hi : i < n) : Sg (w.setCell ⟨g, off + i, none⟩ (.int .u8 (v : Nat))) 1 (.slice (some ⟨g, off, none⟩) n cap) n (b8 (l.set i v)) := by
  have := h.set i hi (.int .u8 (v : Nat))
  rwa [b8_set] at this
theorem run_str8 {w : World} {v : Value} {n : Nat} {l : List Nat} (hb : By l) (h : Sg w 1 v n (b8 l)) : (convert 34 9 v).run Tryd.prog w = .ok (.string (bsL l)) w := by
  rw [b8_byv hb] at h
  exact run_str Tryd.underlying34 Tryd.underlying5 Tryd.underlying9 h
set_option maxHeartbeats 4000000 in
theorem next_ok (s : ByteArray) (hs : s.size = 16) (w : World) : Calls Tryd.prog 31 #[.string s] w fun e w' => e = .returned (.string (bsL (inc 16 (natL s)))) ∧ Below w.heap.size w w' := by
  have HS := Lib.hid hs
  clear hs
  go_enter Tryd.func31, Tryd.ntmps31
  have hcv := run_by w 9 34 5 s Tryd.underlying9 Tryd.underlying34 Tryd.underlying5
  go_upto_region 2 with fail
  have SG := by_sg w 5 s (by rw [HS.out]; decide)
  rw [byv_natL, HS.out] at SG
  have BW := by_below w 5 s
  obtain ⟨g, off, cap, hv, hcap, _, hvb, _⟩ := SG.open (by decide)
  have hg := by_blk w 5 s g hvb
  clear hcv hvb
  rw [hv] at SG ⊢
  clear hv
  subst hg
  generalize byWorld w 5 s = w1 at *
  have H1 := Lib.hid (And.intro SG BW)
  clear SG BW
  have hcap63 : cap ≤ 9223372036854775807 := by
    obtain ⟨_, _, c2, hv2, _, h2, _⟩ := H1.out.1
    simp only [Value.slice.injEq, true_and] at hv2
    rw [hv2.2]; exact h2
  go_wp2_with fail
  go_loopw [4] (fun v wr => ∃ (k : Nat) (l : List Nat), v = .int .i64 ((k : Int) - 1) ∧ k ≤ 16 ∧ Hid (inc k l = inc 16 (natL s) ∧ By l) ∧ Hid (Sg wr 1 (.slice (some ⟨w.heap.size, off, none⟩) 16 cap) 16 (b8 l) ∧ Below w.heap.size w wr)) (fun v _ => (intOf v + 1).toNat)
  case atStart => exact ⟨16, natL s, rfl, by omega, Lib.hid ⟨rfl, natL_by s⟩, H1.out⟩
  case round =>
    obtain ⟨k, l, rfl, hk, hl, hr⟩ := hrel
    clear H1
    rcases Nat.eq_zero_or_pos k with h0 | h0
    · have hst := run_str8 hl.out.2 hr.out.1
      have hz : l = inc 16 (natL s) := by have e := hl.out.1; rw [h0] at e; exact e
      have HZ := Lib.hid hz
      clear hz
      go_wp2_with fail
      go_ret
      exact ⟨by rw [← HZ.out]; rfl, hr.out.2⟩
    · obtain ⟨k, rfl⟩ : ∃ j, k = j + 1 := ⟨k - 1, by omega⟩
      rw [show ((k + 1 : Nat) : Int) - 1 = (k : Int) by omega]
      have c1 := hr.out.1.at8 (i := k) (by omega)
      obtain ⟨c1, f1⟩ := c1
      have hx := hl.out.2.get k
      have hinc := hl.out.1
      rw [inc] at hinc
      have S1 := hr.out.1.set8 k ((l.getD k 0 + 1) % 256) (by omega)
      have BL := byL_set hl.out.2 k ((l.getD k 0 + 1) % 256) (Nat.mod_lt _ (by decide))
      have hlen : l.length = 16 := by have := hr.out.1.len; rw [b8_len] at this; omega
      have hget : (l.set k ((l.getD k 0 + 1) % 256)).getD k 0 = (l.getD k 0 + 1) % 256 := by rw [List.getD_eq_getElem?_getD, List.getElem?_set_self (by omega)]; rfl
      have c2 := (S1.at8 (i := k) (by omega)).1
      rw [hget] at c2
      have B2 := below_set' hr.out.2 w.heap.size (off + k) (.int .u8 ((l.getD k 0 + 1) % 256 : Nat)) (Nat.le_refl _)
      have H2 := Lib.hid (And.intro S1 B2)
      have HBL := Lib.hid BL
      clear S1 B2 BL hget hlen
      generalize l.getD k 0 = x at *
      by_cases hz : (x + 1) % 256 = 0
      · rw [if_pos hz] at hinc
        have HI := Lib.hid hinc
        have hx2 : x = 255 := by omega
        clear hinc
        have HX := Lib.hid hx2
        generalize l.set k ((x + 1) % 256) = l2 at *
        rw [hz] at H2
        go_wp2_with fail
        go_roundw
        case rel => exact ⟨k, l2, rfl, by omega, Lib.hid ⟨HI.out, HBL.out⟩, H2.out⟩
        case measure => simp [intOf]
      · rw [if_neg hz] at hinc
        have HI := Lib.hid hinc
        clear hinc
        rw [show (((x + 1) % 256 : Nat) : Int) = (x : Int) + 1 by omega] at H2 c2
        have hx2 : x < 255 := by omega
        have hst := run_str8 HBL.out H2.out.1
        generalize l.set k ((x + 1) % 256) = l2 at *
        go_wp2_with fail
        go_ret
        exact ⟨by rw [← HI.out]; rfl, H2.out.2⟩
end Go.Proofs.YteleedcpepifjaaDoor
