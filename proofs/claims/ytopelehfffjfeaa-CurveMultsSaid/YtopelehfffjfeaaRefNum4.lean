/-
The document's numbers in digits of 16 bits: of bytes, and their bytes.
-/
import Derived.Test.YtopelehfffjfeaaRefNum3
namespace Go.Proofs.Ytopelehfffjfeaa
open Go.RowKit

/-- the number that bytes write, the lowest first -/
def le8 : List UInt8 → Nat
  | [] => 0
  | b :: r => b.toNat + 256 * le8 r
theorem le8_append (a b : List UInt8) : le8 (a ++ b) = le8 a + 256 ^ a.length * le8 b := by
  induction a with
  | nil => simp [le8]
  | cons d r ih =>
    simp only [List.cons_append, le8, ih, List.length_cons, Nat.pow_succ]
    rw [Nat.mul_add, ← Nat.mul_assoc, Nat.mul_comm 256 (256 ^ r.length), Nat.add_assoc]
theorem le8_lt (l : List UInt8) : le8 l < 256 ^ l.length := by
  induction l with
  | nil => simp [le8]
  | cons d r ih =>
    have hd := d.toNat_lt
    simp only [le8, List.length_cons, Nat.pow_succ]
    omega
theorem le8_take_succ (l : List UInt8) (k : Nat) (h : k < l.length) : le8 (l.take (k + 1)) = le8 (l.take k) + 256 ^ k * (l.getD k 0).toNat := by
  rw [List.take_succ_eq_append_getElem h, le8_append, List.length_take, Nat.min_eq_left (Nat.le_of_lt h)]
  simp [le8, h]
theorem pow256 (k : Nat) : 256 ^ (2 * k) = 65536 ^ k := by rw [Nat.pow_mul]
theorem bv_digit {l : List Nat} (h : Sm l) (k : Nat) : bv l / 65536 ^ k % 65536 = l.getD k 0 := by
  rcases Nat.lt_or_ge k l.length with hk | hk
  · have e := bv_take_drop l k (by omega)
    rw [drop_getD hk, bv_cons] at e
    have h1 := bv_lt (h.take k)
    rw [List.length_take, Nat.min_eq_left (by omega)] at h1
    have h2 := h.getD k
    rw [e, Nat.add_comm, Nat.mul_add_div (Nat.pow_pos (by decide)), Nat.div_eq_of_lt h1]
    omega
  · rw [List.getD_eq_getElem?_getD, List.getElem?_eq_none hk, Nat.div_eq_of_lt]
    · rfl
    · exact Nat.lt_of_lt_of_le (bv_lt h) (Nat.pow_le_pow_right (by decide) hk)
/-- the lowest n bytes of a number -/
def leBytes (N n : Nat) : List UInt8 := (List.range n).map fun j => UInt8.ofNat (N / 256 ^ j % 256)
theorem byte_even {l : List Nat} (h : Sm l) (k : Nat) : l.getD k 0 % 256 = bv l / 256 ^ (2 * k) % 256 := by
  rw [← bv_digit h, pow256]; omega
theorem byte_odd {l : List Nat} (h : Sm l) (k : Nat) : l.getD k 0 / 256 % 256 = bv l / 256 ^ (2 * k + 1) % 256 := by
  rw [← bv_digit h, Nat.pow_succ, pow256, ← Nat.div_div_eq_div_mul]; omega

theorem byte_at (s : ByteArray) (i : Nat) (h : i < s.size) : (s.data.toList.getD i 0).toNat = (s[i]).toNat := by
  have h' : i < s.data.toList.length := by rw [Array.length_toList]; exact h
  rw [List.getD_eq_getElem?_getD, List.getElem?_eq_getElem h', Option.getD_some]
  rfl
theorem own_form {w : World} {base : Nat} {e : TypeId} {size : Nat} {v : Value} {n : Nat} {xs : List Value} (h : w.ownsRow base e size v n xs) (hn : 0 < n) : ∃ g cap, v = .slice (some ⟨g, 0, none⟩) n cap ∧ base ≤ g := by
  rcases h.2 with ⟨_, h0⟩ | ⟨g, cap, cur, hv, hb, _⟩
  · omega
  · exact ⟨g, cap, hv, hb⟩
/-! ### Of -/
theorem of_even {lo : List Nat} {l : List UInt8} {i b : Nat} (hev : i % 2 = 0) (hl : lo.length = (i + 1) / 2) (hk : i < l.length) (h : bv lo = le8 (l.take i)) (hb : (l.getD i 0).toNat = b) : bv (lo ++ [b]) = le8 (l.take (i + 1)) := by
  subst hb
  rw [bv_snoc, le8_take_succ l _ hk, h, hl, ← pow256, show 2 * ((i + 1) / 2) = i from by omega]
theorem of_small {lo : List Nat} {l : List UInt8} {i : Nat} (hod : i % 2 = 1) (hl : lo.length = (i + 1) / 2) (hk : i < l.length) (h : bv lo = le8 (l.take i)) : lo.getD (i / 2) 0 < 256 := by
  have h1 := le8_lt (l.take i)
  rw [List.length_take, Nat.min_eq_left (by omega), ← h] at h1
  have e : 256 ^ i = 65536 ^ (i / 2) * 256 := by
    rw [← pow256, ← Nat.pow_succ]; congr 1; omega
  rw [e] at h1
  have h2 := bv_take_succ lo (i / 2) (by omega)
  rw [List.take_of_length_le (by omega)] at h2
  have h3 : 65536 ^ (i / 2) * lo.getD (i / 2) 0 < 65536 ^ (i / 2) * 256 := by omega
  exact Nat.lt_of_mul_lt_mul_left h3
theorem of_odd {lo : List Nat} {l : List UInt8} {i b : Nat} (hod : i % 2 = 1) (hl : lo.length = (i + 1) / 2) (hk : i < l.length) (h : bv lo = le8 (l.take i)) (hb : (l.getD i 0).toNat = b) :
    bv (lo.set (i / 2) (lo.getD (i / 2) 0 + 256 * b)) = le8 (l.take (i + 1)) := by
  subst hb
  have hs := bv_set lo (i / 2) (lo.getD (i / 2) 0 + 256 * (l.getD i 0).toNat) (by omega)
  have e : 256 ^ i = 65536 ^ (i / 2) * 256 := by
    rw [← pow256, ← Nat.pow_succ]; congr 1; omega
  rw [le8_take_succ l _ hk, ← h, e]
  rw [Nat.mul_add, ← Nat.mul_assoc] at hs
  omega

set_option maxHeartbeats 1000000 in
set_option maxRecDepth 100000 in
theorem of_ok (s : ByteArray) (w : World) (hs : s.size ≤ 65536) :
    Calls Try.prog 22 #[.string s] w fun e w' => ∃ v', e = .returned v' ∧ Num w' v' (le8 s.data.toList) ∧ Below w.heap.size w w' := by
  obtain ⟨i0, hi, hz0, hz1, hz2⟩ := info_parts digInfo
  have I := Lib.hid hi
  have I0 := Lib.hid hz0
  have I1 := Lib.hid hz1
  have I2 := Lib.hid hz2
  have hlen : s.data.toList.length = s.size := Array.length_toList
  have HL := Lib.hid hlen
  clear hi hz0 hz1 hz2 hlen
  go_enter Try.func22, Try.ntmps22
  go_wp2
  go_loopw [3, 4] (fun vo vi wr => ∃ (i : Nat) (lo : List Nat), vi = .int .i64 i ∧ i ≤ s.size ∧ Hid (lo.length = (i + 1) / 2) ∧ lo.length ≤ 65537 ∧ Sm lo ∧ Hid (wr.ownsRow w.heap.size 3 1 vo lo.length (dvals lo)) ∧
    Hid (bv lo = le8 (s.data.toList.take i)) ∧ Below w.heap.size w wr) (fun _ i _ => s.size - (intOf i).toNat)
  case atStart => exact ⟨0, [], rfl, by omega, rfl, by simp, Sm.nil, World.ownsRow_made _ _ _ (Nat.le_refl _) (Nat.zero_le _) rfl, rfl, (Below.refl _ _).alloc (Nat.le_refl _) _⟩
  case round =>
    obtain ⟨i, lo, rfl, hi, hll, hl6, hsl, OWN, heq, hBw⟩ := hrel
    by_cases hgo : i < s.size
    · have hb : (s[i]).toNat < 256 := (s[i]).toNat_lt
      have hbe := byte_at s i hgo
      rcases Nat.mod_two_eq_zero_or_one i with hev | hod
      · have g1 : (((i : Int) % 2) == 0) = true := by simp only [beq_iff_eq]; omega
        have R := Lib.hid (of_even (lo := lo) (l := s.data.toList) hev hll.out (by rw [HL.out]; exact hgo) heq.out hbe)
        have LL := Lib.hid (show lo.length + 1 = (i + 1 + 1) / 2 from by have := hll.out; omega)
        clear hev heq hll hbe
        go_wp2_with (at_builtin; refine wpList_append_own _ rfl _ _ 25 rfl w.heap.size 3 i0 (.int .i64 0) 1 8 Try.underlying25 I.out I0.out I1.out I2.out rfl (by decide) _ _ _ rfl (OWN.out.alloc _) ⟨wr.heap.size, 0, none⟩ 1 1 [.int .i64 ((s[i].toNat : Nat) : Int)] rfl rfl (one_cells _ _ _) (one_cell1 _ _) (by unfold maxLen; omega) (by omega) (by have := hBw.size; simp; omega) ?_)
        intro v' w1 hown' hgrow _
        rw [← dvals_snoc] at hown'
        have hBx : Below w.heap.size w w1 := (hBw.alloc hBw.size _).grown hgrow (by have := hBw.size; simp; omega) (fun k hk => (OWN.out.lt k hk).1)
        have OWN2 := Lib.hid hown'
        clear hown' hgrow
        go_wp2
        go_roundw
        case rel => exact ⟨i + 1, lo ++ [s[i].toNat], by go_num, by omega, (by show (lo ++ [s[i].toNat]).length = _; rw [List.length_append]; exact LL.out), by simp; have := LL.out; omega, hsl.snoc (by omega), (by rw [List.length_append]; exact OWN2.out), R, hBx⟩
        case measure => simp [intOf]; omega
      · have g1 : (((i : Int) % 2) == 0) = false := by simp only [beq_eq_false_iff_ne]; omega
        have hsm := of_small hod hll.out (by rw [HL.out]; exact hgo) heq.out
        have R := Lib.hid (of_odd (lo := lo) (l := s.data.toList) hod hll.out (by rw [HL.out]; exact hgo) heq.out hbe)
        have hlt : i / 2 < lo.length := by have := hll.out; omega
        have LL := Lib.hid (show lo.length = (i + 1 + 1) / 2 from by have := hll.out; omega)
        clear hod heq hll hbe
        obtain ⟨g, cap, rfl, hgB⟩ := own_form OWN.out (by omega)
        have kc := OWN.out.cellAt (i / 2) (by omega)
        rw [dvals_get _ _ hlt] at kc
        have kf := OWN.out.frozenAt (i / 2)
        generalize hD : lo.getD (i / 2) 0 = d at *
        clear hD
        go_wp2_with fail
        (refine still_tail 12 (by kernel_rfl) (by kernel_rfl) ?_; simp only [List.take_succ_cons, List.take_zero, List.drop_succ_cons, List.drop_zero]; repeat (refine wpStill_step (fun K hK => ?_); go_simp; (try go_ints); (try simp only [↓IntWalk.iteOmega, true_and]); (with_reducible apply hK); clear hK K)); refine wpStill_nil ?_
        go_wp2
        have e1 : ((d : Int) + 256 * (s[i].toNat : Nat)) = ((d + 256 * s[i].toNat : Nat) : Int) := by simp
        rw [e1]
        have st := OWN.out.stored (i / 2) (.int .i64 ((d + 256 * s[i].toNat : Nat) : Int))
        rw [← dvals_set] at st
        go_roundw
        case rel => exact ⟨i + 1, lo.set (i / 2) (d + 256 * s[i].toNat), by go_num, by omega, (by show (lo.set _ _).length = _; rw [List.length_set]; exact LL.out), by simpa using hl6, hsl.set _ _ (by omega), (by rw [List.length_set]; exact (st.1).drew), R, (below_set' hBw _ _ _ hgB).drew⟩
        case measure => simp [intOf]; omega
    · have hz : bv lo = le8 s.data.toList := by
        have h := heq.out
        rw [List.take_of_length_le (by rw [HL.out]; omega)] at h
        exact h
      have HZ := Lib.hid hz
      clear heq hz
      go_wp2_with fail
      refine (trim_ok lo _ _ (dig_of_own hsl OWN.out)).mono ?_
      rintro e w' ⟨v', rfl, hn, rfl⟩
      rw [HZ.out] at hn
      go_wp2_with fail
      go_ret
      exact ⟨_, rfl, hn, hBw⟩

/-! ### Bytes -/
/-- the values of bytes -/
def bvals (l : List UInt8) : List Value := l.map fun b => Value.int .u8 (b.toNat : Nat)
theorem bvals_snoc (l : List UInt8) (b : UInt8) : bvals (l ++ [b]) = bvals l ++ [.int .u8 b.toNat] := by simp [bvals]
theorem leBytes_succ (N n : Nat) : leBytes N (n + 1) = leBytes N n ++ [UInt8.ofNat (N / 256 ^ n % 256)] := by simp [leBytes, List.range_succ]
theorem leBytes_length (N n : Nat) : (leBytes N n).length = n := by simp [leBytes]
theorem u8_of (n : Nat) : (UInt8.ofNat (n % 256)).toNat = n % 256 := by simp
theorem byteInfo : (Try.prog.info? 5).map (fun i => (i.zero, i.size, i.bytes)) = some (some (.int .u8 0), 1, 1) := by kernel_rfl

/-- a row of bytes of the call's own, as a string -/
theorem conv_bytes {P : Program} {w : World} {base src e dst : TypeId} {v : Value} {n : Nat} {bs : List UInt8} (hs : P.underlying src = some (.slice e)) (he : P.underlying e = some (.int .u8)) (hd : P.underlying dst = some .string)
    (hn : bs.length = n) (h : w.ownsRow base e 1 v n (bvals bs)) : (convert src dst v).run P w = .ok (.string ⟨bs.toArray⟩) w := by
  rcases Nat.eq_zero_or_pos n with h0 | h0
  · have hb : bs = [] := List.length_eq_zero_iff.1 (by omega)
    subst hb
    rcases h.2 with ⟨rfl, _⟩ | ⟨g, cap, cur, rfl, _⟩
    · exact run_convert_bytes_nil w src e hs he 0 0 dst hd
    · exact run_convert_bytes_arg w src e hs he g 0 n cap [] (by simpa using h0.symm) (fun i hi => by omega) dst hd
  · obtain ⟨g, cap, rfl, _⟩ := own_form h h0
    have := run_convert_bytes_arg (P := P) w src e hs he g 0 n cap (bs.map fun b => (b.toNat : Int)) (by simpa using hn) (fun i hi => ?_) dst hd
    · rw [this]
      have e1 : strOfNums (bs.map fun b => (b.toNat : Int)) = ⟨bs.toArray⟩ := by
        unfold strOfNums
        congr 2
        rw [List.map_map]
        conv => rhs; rw [← List.map_id bs]
        apply List.map_congr_left
        intro b _
        simp
      rw [e1]
    · rw [Nat.zero_add, h.cellAt i (by omega)]
      have hi' : i < bs.length := by omega
      simp [bvals, List.getElem?_eq_getElem hi', List.getD_eq_getElem?_getD]

set_option maxHeartbeats 1000000 in
set_option maxRecDepth 100000 in
theorem bytes_ok (l : List Nat) (v : Value) (n : Nat) (w : World) (h : DigAt w v l) (hn : n ≤ 65536) (hl : l.length ≤ 65536) :
    Calls Try.prog 66 #[v, .int .i64 n] w fun e w' => e = .returned (.string ⟨(leBytes (bv l) n).toArray⟩) ∧ Below w.heap.size w w' := by
  obtain ⟨hs, a, cap, rfl, hlc, hcm, hc⟩ := h
  obtain ⟨i0, hi, hz0, hz1, hz2⟩ := info_parts byteInfo
  have HC := Lib.hid hc
  have HS := Lib.hid hs
  have I := Lib.hid hi
  have I0 := Lib.hid hz0
  have I1 := Lib.hid hz1
  have I2 := Lib.hid hz2
  clear hc hs hi hz0 hz1 hz2
  go_enter Try.func66, Try.ntmps66
  go_wp2
  go_loopw [5, 6] (fun vo vi wr => ∃ (i : Nat), vi = .int .i64 i ∧ i ≤ n ∧ Hid (wr.ownsRow w.heap.size 5 1 vo i (bvals (leBytes (bv l) i))) ∧ Below w.heap.size w wr) (fun _ i _ => n - (intOf i).toNat)
  case atStart => exact ⟨0, rfl, by omega, World.ownsRow_made _ _ _ (Nat.le_refl _) (Nat.zero_le _) rfl, (Below.refl _ _).alloc (Nat.le_refl _) _⟩
  case round =>
    obtain ⟨i, rfl, hi, OWN, hBw⟩ := hrel
    by_cases hgo : i < n
    · have hd := HS.out.getD (i / 2)
      have h0 : ¬ i / 2 < l.length → l.getD (i / 2) 0 = 0 := fun h => by rw [List.getD_eq_getElem?_getD, List.getElem?_eq_none (by omega)]; rfl
      have H0 := Lib.hid h0
      have hca : i / 2 < l.length → ∃ b off, a = some ⟨b, off, none⟩ ∧ wr.cell? ⟨b, off + i / 2, none⟩ = some (.int .i64 (l.getD (i / 2) 0 : Nat)) := fun h => by
        obtain ⟨b, off, e, hcc⟩ := HC.out (i / 2) h
        exact ⟨b, off, e, by rw [hBw.cell (cell_lt hcc).1]; exact hcc⟩
      have hev : i % 2 = 0 → l.getD (i / 2) 0 % 256 = bv l / 256 ^ i % 256 := fun h => by
        rw [byte_even HS.out, show 2 * (i / 2) = i from by omega]
      have hod : i % 2 = 1 → l.getD (i / 2) 0 / 256 % 256 = bv l / 256 ^ i % 256 := fun h => by
        rw [byte_odd HS.out, show 2 * (i / 2) + 1 = i from by omega]
      have HEV := Lib.hid hev
      have HOD := Lib.hid hod
      clear h0 hev hod
      generalize l.getD (i / 2) 0 = d at *
      have fin : ∀ (x : Int) (v' : Value) (w1 : World), x = ((bv l / 256 ^ i % 256 : Nat) : Int) → w1.ownsRow w.heap.size 5 1 v' (i + 1) (bvals (leBytes (bv l) i) ++ [.int .u8 x]) → w1.ownsRow w.heap.size 5 1 v' (i + 1) (bvals (leBytes (bv l) (i + 1))) := fun x v' w1 hx h => by
        rw [leBytes_succ, bvals_snoc, u8_of, ← hx]; exact h
      have FIN := Lib.hid fin
      clear fin
      rcases Nat.mod_two_eq_zero_or_one i with he | ho
      · have g1 : (((i : Int) % 2) == 1) = false := by simp only [beq_eq_false_iff_ne]; omega
        have E := Lib.hid (HEV.out he)
        by_cases hil : i / 2 < l.length
        · obtain ⟨b1, o1, rfl, kc⟩ := hca hil
          clear hca he
          go_wp2_with (at_builtin; refine wpList_append_own _ rfl _ _ 35 rfl w.heap.size 5 i0 (.int .u8 0) 1 1 Try.underlying35 I.out I0.out I1.out I2.out rfl (by decide) _ _ _ rfl (OWN.out.alloc _) ⟨wr.heap.size, 0, none⟩ 1 1 [.int .u8 ((d : Int) % 256)] rfl rfl (one_cells _ _ _) (one_cell1 _ _) (by unfold maxLen; omega) (by omega) (by have := hBw.size; simp; omega) ?_)
          intro v' w1 hown' hgrow _
          have hBx : Below w.heap.size w w1 := (hBw.alloc hBw.size _).grown hgrow (by have := hBw.size; simp; omega) (fun k hk => (OWN.out.lt k hk).1)
          have OWN2 := Lib.hid (FIN.out _ v' w1 (by rw [← E.out]; omega) hown')
          clear hown' hgrow
          go_wp2
          go_roundw
          case rel => exact ⟨i + 1, by go_num, by omega, OWN2, hBx⟩
          case measure => simp [intOf]; omega
        · obtain rfl := H0.out hil
          clear hca he
          go_wp2_with (at_builtin; refine wpList_append_own _ rfl _ _ 35 rfl w.heap.size 5 i0 (.int .u8 0) 1 1 Try.underlying35 I.out I0.out I1.out I2.out rfl (by decide) _ _ _ rfl (OWN.out.alloc _) ⟨wr.heap.size, 0, none⟩ 1 1 [.int .u8 ((0 : Int))] rfl rfl (one_cells _ _ _) (one_cell1 _ _) (by unfold maxLen; omega) (by omega) (by have := hBw.size; simp; omega) ?_)
          intro v' w1 hown' hgrow _
          have hBx : Below w.heap.size w w1 := (hBw.alloc hBw.size _).grown hgrow (by have := hBw.size; simp; omega) (fun k hk => (OWN.out.lt k hk).1)
          have OWN2 := Lib.hid (FIN.out _ v' w1 (by rw [← E.out]; omega) hown')
          clear hown' hgrow
          go_wp2
          go_roundw
          case rel => exact ⟨i + 1, by go_num, by omega, OWN2, hBx⟩
          case measure => simp [intOf]; omega
      · have g1 : (((i : Int) % 2) == 1) = true := by simp only [beq_iff_eq]; omega
        have E := Lib.hid (HOD.out ho)
        by_cases hil : i / 2 < l.length
        · obtain ⟨b1, o1, rfl, kc⟩ := hca hil
          clear hca ho
          go_wp2_with (at_builtin; refine wpList_append_own _ rfl _ _ 35 rfl w.heap.size 5 i0 (.int .u8 0) 1 1 Try.underlying35 I.out I0.out I1.out I2.out rfl (by decide) _ _ _ rfl (OWN.out.alloc _) ⟨wr.heap.size, 0, none⟩ 1 1 [.int .u8 (((d : Int) / 256) % 256)] rfl rfl (one_cells _ _ _) (one_cell1 _ _) (by unfold maxLen; omega) (by omega) (by have := hBw.size; simp; omega) ?_)
          intro v' w1 hown' hgrow _
          have hBx : Below w.heap.size w w1 := (hBw.alloc hBw.size _).grown hgrow (by have := hBw.size; simp; omega) (fun k hk => (OWN.out.lt k hk).1)
          have OWN2 := Lib.hid (FIN.out _ v' w1 (by rw [← E.out]; omega) hown')
          clear hown' hgrow
          go_wp2
          go_roundw
          case rel => exact ⟨i + 1, by go_num, by omega, OWN2, hBx⟩
          case measure => simp [intOf]; omega
        · obtain rfl := H0.out hil
          clear hca ho
          go_wp2_with (at_builtin; refine wpList_append_own _ rfl _ _ 35 rfl w.heap.size 5 i0 (.int .u8 0) 1 1 Try.underlying35 I.out I0.out I1.out I2.out rfl (by decide) _ _ _ rfl (OWN.out.alloc _) ⟨wr.heap.size, 0, none⟩ 1 1 [.int .u8 ((0 : Int))] rfl rfl (one_cells _ _ _) (one_cell1 _ _) (by unfold maxLen; omega) (by omega) (by have := hBw.size; simp; omega) ?_)
          intro v' w1 hown' hgrow _
          have hBx : Below w.heap.size w w1 := (hBw.alloc hBw.size _).grown hgrow (by have := hBw.size; simp; omega) (fun k hk => (OWN.out.lt k hk).1)
          have OWN2 := Lib.hid (FIN.out _ v' w1 (by rw [← E.out]; omega) hown')
          clear hown' hgrow
          go_wp2
          go_roundw
          case rel => exact ⟨i + 1, by go_num, by omega, OWN2, hBx⟩
          case measure => simp [intOf]; omega
    · have hin : i = n := by omega
      have HIN := Lib.hid hin
      clear hin
      have hcv := conv_bytes (P := Try.prog) (src := 35) (dst := 9) Try.underlying35 Try.underlying5 Try.underlying9 (leBytes_length _ _) OWN.out
      have hge : ¬ (i : Int) < n := by omega
      clear hgo hi
      go_wp2
      go_ret
      exact ⟨by rw [HIN.out]; rfl, hBw⟩
end Go.Proofs.Ytopelehfffjfeaa
