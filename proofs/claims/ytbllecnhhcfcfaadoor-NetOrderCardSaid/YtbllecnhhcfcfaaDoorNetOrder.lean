/-
NetOrder: what is taken is what was put, in its order, both ways at once: the walk of the law.
-/
import Derived.Test.YtbllecnhhcfcfaaDoorNetWire
import Derived.Outline
namespace Go.Proofs.YtbllecnhhcfcfaaDoor
open Go.RowKit

/-- the lowest five bits -/
def m31 (n : Int) : Nat := (n % 32).toNat
theorem m31_le (n : Int) : m31 n ≤ 31 := by unfold m31; omega
theorem i64_and31 (n : Int) : bits .and .i64 n 31 = (m31 n : Int) := by
  have h31 : (BitVec.ofInt 64 31).toNat = 2 ^ 5 - 1 := by decide
  have key : (BitVec.ofInt 64 n &&& BitVec.ofInt 64 31).toNat = (n % ((2 ^ 64 : Nat) : Int)).toNat % 2 ^ 5 := by
    rw [BitVec.toNat_and, BitVec.toNat_ofInt, h31, Nat.and_two_pow_sub_one_eq_mod]
  show IntKind.i64.wrap ((BitVec.ofInt 64 n &&& BitVec.ofInt 64 31).toNat : Nat) = (m31 n : Int)
  rw [key, IntKind.wrap_i64]
  unfold m31
  omega

theorem bl_length (x : ByteArray) : x.data.toList.length = x.size := Array.length_toList
/-- what was taken, what is on the way and what is left are the whole -/
def J (A P L s : ByteArray) : Prop := A.data.toList ++ (P.data.toList ++ L.data.toList) = s.data.toList
theorem J.start (s : ByteArray) : J ⟨#[]⟩ ⟨#[]⟩ s s := rfl
theorem J.size {A P L s : ByteArray} (h : J A P L s) : A.size + P.size + L.size = s.size := by
  have := congrArg List.length h
  simp only [List.length_append, bl_length] at this
  omega
theorem bl_extract (x : ByteArray) (a b : Nat) : (x.extract a b).data.toList = (x.data.toList.take b).drop a := by
  simp [ByteArray.data_extract, List.drop_take]
theorem J.step {A P L s : ByteArray} (h : J A P L s) {Lt Lr : ByteArray} (hl : Lt.data.toList ++ Lr.data.toList = L.data.toList) (c : Nat) (hs : s.size ≤ 200) {P' : ByteArray} (hP' : P ++ Lt.extract 0 (1000 - P.size) = P') :
    J (A ++ P'.extract 0 c) (P'.extract c P'.size) Lr s := by
  have hz := h.size
  have hz2 := congrArg List.length hl
  simp only [List.length_append, bl_length] at hz2
  have e1 : P'.data.toList = P.data.toList ++ Lt.data.toList := by
    rw [← hP', ByteArray.data_append, Array.toList_append, bl_extract]
    congr 1
    rw [List.drop_zero, List.take_of_length_le]
    rw [bl_length]
    omega
  unfold J at *
  have e2 : P'.size = P'.data.toList.length := (bl_length P').symm
  rw [ByteArray.data_append, Array.toList_append, bl_extract, bl_extract, e2, List.take_length, List.drop_zero, ← h, e1, ← hl]
  simp only [List.append_assoc]
  congr 1
  rw [← List.append_assoc (List.take c _), List.take_append_drop, List.append_assoc]
theorem parts_all (L : ByteArray) : L.data.toList ++ ByteArray.empty.data.toList = L.data.toList := by simp
theorem parts_at (L : ByteArray) (n : Nat) : (L.extract 0 n).data.toList ++ (L.extract n L.size).data.toList = L.data.toList := by
  rw [bl_extract, bl_extract, List.drop_zero, ← bl_length L, List.take_length, List.take_append_drop]
theorem put_size {P Lt P' : ByteArray} (hP' : P ++ Lt.extract 0 (1000 - P.size) = P') (h1 : P.size ≤ 200) (h2 : Lt.size ≤ 200) : P'.size ≤ 400 := by
  rw [← hP', ByteArray.size_append, ByteArray.size_extract]; omega
theorem ext_size (P : ByteArray) (a b : Nat) : (P.extract a b).size ≤ P.size := by rw [ByteArray.size_extract]; omega

theorem J.fin {A P L s : ByteArray} (h : J A P L s) (hs : s.size ≤ 200) {P' : ByteArray} (hP' : P ++ L.extract 0 (1000 - P.size) = P') :
    A ++ P'.extract 0 (takes 1000 P') = s ∧ P'.extract (takes 1000 P') P'.size = ByteArray.empty := by
  have hz := h.size
  have hp := put_size hP' (by omega) (by omega)
  have hj := h.step (parts_all L) (takes 1000 P') hs hP'
  have e : takes 1000 P' = P'.size := by unfold takes; omega
  have e2 : P'.extract P'.size P'.size = ByteArray.empty := by simp
  rw [e] at hj ⊢
  refine ⟨?_, e2⟩
  rw [e2] at hj
  unfold J at hj
  apply ByteArray.ext
  apply Array.toList_inj.1
  simpa using hj
set_option maxHeartbeats 1000000 in
set_option maxRecDepth 100000 in
theorem order_ok (s t : ByteArray) (a : Option Addr) (len cap : Nat) (zs : List Int) (w : World) (_hlen : len ≤ 9223372036854775807)
    (hcell : ∀ k, k < len → ∃ b off, a = some ⟨b, off, none⟩ ∧ w.cell? ⟨b, off + k, none⟩ = some (.int .i64 (zs.getD k 0)) ∧ b < w.heap.size) :
    Calls Tryd.prog 3 #[.string s, .string t, .slice a len cap] w fun e w' => e = .returned (.bool true) ∧ Below w.heap.size w w' := by
  have HC := Lib.hid hcell
  clear hcell
  have h31 : ∀ n, bits .and .i64 n 31 = (m31 n : Int) := i64_and31
  go_enter Tryd.func3, Tryd.ntmps3
  go_wp2_with fail
  refine (awake_ok _).mono ?_
  rintro e w1 ⟨rfl, hb1⟩
  go_wp2_with fail
  refine (cut_ok s 200 _).mono ?_
  rintro e w2 ⟨rfl, rfl⟩
  go_wp2_with fail
  refine (cut_ok t 200 _).mono ?_
  rintro e w2 ⟨rfl, rfl⟩
  go_wp2_with fail
  refine (new_w 1000 _).mono ?_
  rintro e w2 ⟨rfl, hw2, hb2⟩
  have hS : (s.extract 0 200).size ≤ 200 := by rw [ByteArray.size_extract]; omega
  have hT : (t.extract 0 200).size ≤ 200 := by rw [ByteArray.size_extract]; omega
  have hB : Below w.heap.size w w2 := hb1.trans (hb2.mono hb1.size)
  have hb : w.heap.size ≤ w1.heap.size := hb1.size
  clear hb1 hb2
  generalize w1.heap.size = b at *
  generalize s.extract 0 200 = S at *
  generalize t.extract 0 200 = T at *
  clear w1
  go_wp2_with fail
  go_loopw [8, 9, 10, 11, 12] (fun va vb vl vr i wr => ∃ (k : Nat) (A B P Q L R : ByteArray), k ≤ 60 ∧ i = .int .i64 k ∧ va = .string A ∧ vb = .string B ∧ vl = .string L ∧ vr = .string R ∧
    J A P L S ∧ J B Q R T ∧ Wire wr b P Q 1000 ∧ Below w.heap.size w wr) (fun _ _ _ _ i _ => 60 - (intOf i).toNat)
  case atStart => exact ⟨0, _, _, _, _, _, _, by omega, rfl, rfl, rfl, rfl, rfl, J.start S, J.start T, hw2, hB⟩
  case round =>
    clear hw2 hB
    obtain ⟨k, A, B, P, Q, L, R, hk, rfl, rfl, rfl, rfl, rfl, JA, JB, hW, hBw⟩ := hrel
    have sA := JA.size
    have sB := JB.size
    have SA := Lib.hid sA
    have SB := Lib.hid sB
    by_cases hlt : k < len ∧ k < 60
    · obtain ⟨hkl, hk60⟩ := hlt
      obtain ⟨cb, co, rfl, hc, hcb⟩ := HC.out k hkl
      have hL : L.size ≤ 200 := by omega
      have hR : R.size ≤ 200 := by omega
      have hP : P.size ≤ 200 := by omega
      have hQ : Q.size ≤ 200 := by omega
      have hA : A.size ≤ 200 := by omega
      have hBs : B.size ≤ 200 := by omega
      clear sA sB
      have hcw : wr.cell? ⟨cb, co + k, none⟩ = some (.int .i64 (zs.getD k 0)) := by rw [hBw.cell (p := ⟨cb, co + k, none⟩) hcb]; exact hc
      clear hc
      generalize zs.getD k 0 = z at *
      have hcb' : cb < b := by omega
      have keep : ∀ (w1 w2 : World), Below b w1 w2 → w1.cell? ⟨cb, co + k, none⟩ = some (.int .i64 z) → w2.cell? ⟨cb, co + k, none⟩ = some (.int .i64 z) := fun _ _ hw h => (hw.cell (p := ⟨cb, co + k, none⟩) hcb').trans h
      have KEEP := Lib.hid keep
      clear keep
      go_wp2_with fail
      all_goals refine (put0_w _ P Q _ 1000 _ (by omega) (by omega) hW).mono ?_
      all_goals rintro e wa ⟨rfl, hWa, hBa⟩
      all_goals have hca := KEEP.out _ _ hBa hcw
      all_goals have hBx := hBw.trans (hBa.mono hb)
      all_goals clear hBa hcw hBw hW
      all_goals generalize hP' : P ++ _ = P' at hWa
      all_goals have hPs := put_size hP' (by omega) (by first | omega | (have := ext_size L 0 (m31 z); omega))
      all_goals have HP' := Lib.hid hP'
      all_goals clear hP'
      all_goals go_wp2_with fail
      all_goals refine (put1_w _ P' Q _ 1000 _ (by omega) (by omega) hWa).mono ?_
      all_goals rintro e wb ⟨rfl, hWb, hBb⟩
      all_goals have hcb2 := KEEP.out _ _ hBb hca
      all_goals have hBy := hBx.trans (hBb.mono hb)
      all_goals clear hBb hca hBx hWa
      all_goals generalize hQ' : Q ++ _ = Q' at hWb
      all_goals have hQs := put_size hQ' (by omega) (by first | omega | (refine Nat.le_trans (ext_size R 0 _) ?_; omega))
      all_goals have HQ' := Lib.hid hQ'
      all_goals clear hQ'
      all_goals go_wp2_with fail
      all_goals refine (take0_w _ _ P' _ 1000 _ (by omega) (by omega) hWb).mono ?_
      all_goals rintro e wc ⟨rfl, hWc, hBc⟩
      all_goals have hcc := KEEP.out _ _ hBc hcb2
      all_goals have hBz := hBy.trans (hBc.mono hb)
      all_goals clear hBc hcb2 hBy hWb
      all_goals generalize takes _ P' = c1 at *
      all_goals go_wp2_with fail
      all_goals refine (take1_w _ _ _ Q' 1000 _ (by omega) (by omega) hWc).mono ?_
      all_goals rintro e wd ⟨rfl, hWd, hBd⟩
      all_goals have hBu := hBz.trans (hBd.mono hb)
      all_goals clear hBd hcc hBz hWc
      all_goals generalize takes _ Q' = c2 at *
      all_goals have x1 := ext_size P' 0 c1
      all_goals have x2 := ext_size Q' 0 c2
      all_goals go_wp2_with fail
      all_goals
        go_roundw
        case rel => exact ⟨k + 1, _, _, _, _, _, _, by omega, by go_num, rfl, rfl, rfl, rfl, JA.step (by first | exact parts_all _ | exact parts_at _ _) _ hS HP'.out, JB.step (by first | exact parts_all _ | exact parts_at _ _) _ hT HQ'.out, hWd, hBu⟩
        case measure => simp [intOf]; omega
    · have hL : L.size ≤ 200 := by omega
      have hR : R.size ≤ 200 := by omega
      have hP : P.size ≤ 200 := by omega
      have hQ : Q.size ≤ 200 := by omega
      have hA : A.size ≤ 200 := by omega
      have hBs : B.size ≤ 200 := by omega
      clear sA sB
      by_cases hkl : k < len
      all_goals
        go_wp2_with fail
        refine (put0_w _ P Q _ 1000 _ (by omega) (by omega) hW).mono ?_
        rintro e wa ⟨rfl, hWa, hBa⟩
        have hBx := hBw.trans (hBa.mono hb)
        clear hBa hBw hW
        generalize hP' : P ++ _ = P' at hWa
        have hPs := put_size hP' (by omega) (by omega)
        obtain ⟨fA, fP⟩ := JA.fin hS hP'
        have fA := Lib.hid fA
        have fP := Lib.hid fP
        clear hP'
        go_wp2_with fail
        refine (put1_w _ P' Q _ 1000 _ (by omega) (by omega) hWa).mono ?_
        rintro e wb ⟨rfl, hWb, hBb⟩
        have hBy := hBx.trans (hBb.mono hb)
        clear hBb hBx hWa
        generalize hQ' : Q ++ _ = Q' at hWb
        have hQs := put_size hQ' (by omega) (by omega)
        obtain ⟨fB, fQ⟩ := JB.fin hT hQ'
        have fB := Lib.hid fB
        have fQ := Lib.hid fQ
        clear hQ'
        go_wp2_with fail
        refine (take0_w _ 1000 P' _ 1000 _ (by omega) (by omega) hWb).mono ?_
        rintro e wc ⟨rfl, hWc, hBc⟩
        have hBz := hBy.trans (hBc.mono hb)
        clear hBc hBy hWb
        rw [fP.out] at hWc
        have x1 := ext_size P' 0 (takes 1000 P')
        generalize P'.extract 0 (takes 1000 P') = X at *
        go_wp2_with fail
        refine (take1_w _ 1000 _ Q' 1000 _ (by omega) (by omega) hWc).mono ?_
        rintro e wd ⟨rfl, hWd, hBd⟩
        have hBu := hBz.trans (hBd.mono hb)
        clear hBd hBz hWc
        rw [fQ.out] at hWd
        have x2 := ext_size Q' 0 (takes 1000 Q')
        generalize Q'.extract 0 (takes 1000 Q') = Y at *
        have gA := fA.out
        have gB := fB.out
        go_wp2_with fail
        refine (len0_w _ _ _ _ _ hWd).mono ?_
        rintro e we ⟨rfl, rfl⟩
        go_wp2_with fail
        refine (len1_w _ _ _ _ _ hWd).mono ?_
        rintro e we ⟨rfl, rfl⟩
        go_wp2_with fail
        go_ret
        exact ⟨rfl, hBu⟩
end Go.Proofs.YtbllecnhhcfcfaaDoor
