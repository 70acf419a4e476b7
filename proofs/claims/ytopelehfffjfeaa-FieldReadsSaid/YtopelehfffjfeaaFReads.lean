/-
FieldReads, walked.
-/
import Derived.Test.YtopelehfffjfeaaFLaw2
import Derived.Test.YtopelehfffjfeaaDriftT
import Derived.Test.YtopelehfffjfeaaCut
namespace Go.Proofs.Ytopelehfffjfeaa
open Go.RowKit

theorem num_len {w : World} {v : Value} {n : Nat} (h : Num w v n) : ∃ ao k cap, v = .slice ao k cap ∧ (k = 0 ↔ n = 0) := by
  obtain ⟨l, hd, h0, _⟩ := num_odd_facts h
  obtain ⟨hs, a, cap, rfl, _⟩ := hd
  exact ⟨_, _, _, rfl, ⟨fun e => h0.2 (List.length_eq_zero_iff.1 e), fun e => by rw [h0.1 e]; rfl⟩⟩
def nb (n i : Nat) : Nat := n / 256 ^ i % 256
def bytes8 (n : Nat) : List UInt8 := [UInt8.ofNat (nb n 0), UInt8.ofNat (nb n 1), UInt8.ofNat (nb n 2), UInt8.ofNat (nb n 3), UInt8.ofNat (nb n 4), UInt8.ofNat (nb n 5), UInt8.ofNat (nb n 6), UInt8.ofNat (nb n 7)]
theorem le8_bytes8 (n : Nat) (h : n < 18446744073709551616) : le8 (bytes8 n) = n := by
  unfold bytes8 nb
  simp only [le8, UInt8.toNat_ofNat']
  omega
theorem bytes8_cells (n : Nat) : (bvals (bytes8 n)).toArray = #[.int .u8 (nb n 0 : Nat), .int .u8 (nb n 1 : Nat), .int .u8 (nb n 2 : Nat), .int .u8 (nb n 3 : Nat), .int .u8 (nb n 4 : Nat), .int .u8 (nb n 5 : Nat), .int .u8 (nb n 6 : Nat), .int .u8 (nb n 7 : Nat)] := by
  simp [bvals, bytes8, nb]
theorem conv_n (n i : Nat) (k : Int) (hk : k = ((256 ^ i : Nat) : Int)) : IntKind.u8.wrap ((n : Int) / k) = (nb n i : Nat) := by
  subst hk
  rw [← Int.natCast_ediv]
  have h : nb n i < 256 := Nat.mod_lt _ (by decide)
  have e := Nat.div_add_mod (n / 256 ^ i) 256
  unfold nb at h ⊢
  generalize n / 256 ^ i = m at *
  simp only [IntKind.wrap_u8]
  omega
theorem conv0 (n : Nat) : IntKind.u8.wrap (n : Int) = (nb n 0 : Nat) := by
  have h := conv_n n 0 1 rfl
  rwa [Int.ediv_one] at h
set_option maxHeartbeats 8000000 in
theorem reads_ok (s : ByteArray) (n : Nat) (hn : n < 18446744073709551616) (w : World) : Calls Try.prog 3 #[.string s, .int .u64 n] w (Tells w true) := by
  go_enter Try.func3, Try.ntmps3
  go_wp2_with fail
  refine (awake_ok w).mono ?_
  rintro e w1 ⟨rfl, BB⟩
  go_wp2_with fail
  refine (cut_ok s 40 w1).mono ?_
  rintro e _ ⟨rfl, rfl⟩
  generalize s.extract 0 40 = s1
  go_wp2_with fail
  refine (rfOf s1 w1).mono ?_
  rintro e w2 ⟨vx, rfl, Nx, b2⟩
  go_wp2_with fail
  refine (elOf s1 w2).mono ?_
  rintro e w3 ⟨va, rfl, Ea, b3⟩
  obtain ⟨la, rfl, La⟩ := Ea
  generalize fpOf s1 = a at *
  replace Nx := Lib.hid (Nx.below b3)
  have BB4 := (BB.trans (b2.mono BB.size))
  have BW := BB4.trans (b3.mono BB4.size)
  clear BB b2 b3 BB4
  obtain ⟨xo, xk, xc, rfl, xz⟩ := num_len Nx.out
  go_upto_region 6 with (refine new1 rfl rfl rfl rfl rfl La.len (by go_simp) (by go_simp) (fun w4 P => ?_))
  have D1 : Below w4.heap.size w4 w4.drew := below_drewN (Below.refl _ _) 1
  replace BW := BW.trans ((P.2.trans (D1.mono P.2.size)).mono BW.size)
  replace Nx := Lib.hid ((Nx.out.below P.2).below D1)
  have P1 : Hid (Blk w4.drew w3.heap.size tE (uvals la)) := P.1.drew 1
  clear P D1
  obtain ⟨bo, hbo⟩ : ∃ b, b = decide (a.val % 2 = 1) := ⟨_, rfl⟩
  obtain ⟨bz, hbz⟩ : ∃ b, b = decide (a = 0) := ⟨_, rfl⟩
  have QO := Lib.hid (qOdd La hbo.symm)
  have QZ := Lib.hid (qZero La hbz.symm)
  have RO : Hid (∀ w', Rw w4.drew w' → Calls Try.prog 19 #[.slice xo xk xc] w' (Tells w' bo)) := fun w' hw' => by
    refine (refOdd_ok _ _ w' (Nx.out.below hw')).mono ?_
    rintro e w'' ⟨rfl, rfl⟩
    exact ⟨by rw [hbo], Below.refl _ _⟩
  have IS : Hid (∀ w', Rw w4.drew w' → Calls Try.prog 17 #[.agg (uvals la).toArray, .slice xo xk xc] w' (Tells w' true)) := fun w' hw' => tells (elIs' (El.of La) (Nx.out.below hw')) (decide_eq_true rfl)
  have ZZ : Hid (((xk : Int) == 0) = bz) := by
    show _ = _
    rw [hbz]
    rw [show ((xk : Int) == 0) = decide ((xk : Int) = 0) from rfl]
    refine decide_eq_decide.2 ⟨fun e => Fin.ext (xz.1 (by omega)), fun e => ?_⟩
    have := xz.2 (by rw [e]; rfl)
    omega
  obtain ⟨ls, Ls, CS⟩ := qSmall n hn
  replace CS := Lib.hid CS
  clear hbo hbz xz
  go_simp
  (refine wp_region_drift 44 (by kernel_rfl) (by kernel_rfl) ?_; simp only [List.take_succ_cons, List.take_zero, List.drop_succ_cons, List.drop_zero])
  generalize w4.drew = w5 at *
  (refine drift_step (fun K hK => ?_); refine drift_loadE (fun w' hw' => P1.out.below hw' P1.out.lt) La.len (by first | rfl | simp [Region.wanted, yielded]) rfl (by go_simp) ?_; go_simp; (with_reducible apply hK); clear hK K)
  (refine drift_step (fun K hK => ?_); refine drift_plain (.slice xo xk xc) (by first | rfl | simp [Region.wanted, yielded]) (fun w' hw' => by go_simp) ?_; go_simp; (with_reducible apply hK); clear hK K)
  (refine drift_step (fun K hK => ?_); refine drift_call (.bool true) 17 #[.agg (uvals la).toArray, .slice xo xk xc] (by first | rfl | simp [Region.wanted, yielded]) (fun w' => by go_simp) (fun w' hw' => (IS.out w' hw').mono (by rintro e w'' ⟨rfl, hb⟩; exact ⟨rfl, hb⟩)) ?_; go_simp; (with_reducible apply hK); clear hK K)
  (refine drift_step (fun K hK => ?_); refine drift_plain (.bool true) (by first | rfl | simp [Region.wanted, yielded]) (fun w' hw' => by go_simp) ?_; go_simp; (with_reducible apply hK); clear hK K)
  (refine drift_step (fun K hK => ?_); refine drift_loadE (fun w' hw' => P1.out.below hw' P1.out.lt) La.len (by first | rfl | simp [Region.wanted, yielded]) rfl (by go_simp) ?_; go_simp; (with_reducible apply hK); clear hK K)
  (refine drift_step (fun K hK => ?_); refine drift_call (.bool bo) 18 #[.agg (uvals la).toArray] (by first | rfl | simp [Region.wanted, yielded]) (fun w' => by go_simp) (fun w' hw' => (QO.out w').mono (by rintro e w'' ⟨rfl, hb⟩; exact ⟨rfl, hb⟩)) ?_; go_simp; (with_reducible apply hK); clear hK K)
  (refine drift_step (fun K hK => ?_); refine drift_plain (.slice xo xk xc) (by first | rfl | simp [Region.wanted, yielded]) (fun w' hw' => by go_simp) ?_; go_simp; (with_reducible apply hK); clear hK K)
  (refine drift_step (fun K hK => ?_); refine drift_call (.bool bo) 19 #[.slice xo xk xc] (by first | rfl | simp [Region.wanted, yielded]) (fun w' => by go_simp) (fun w' hw' => (RO.out w' hw').mono (by rintro e w'' ⟨rfl, hb⟩; exact ⟨rfl, hb⟩)) ?_; go_simp; (with_reducible apply hK); clear hK K)
  (refine drift_step (fun K hK => ?_); refine drift_plain (.bool true) (by first | rfl | simp [Region.wanted, yielded]) (fun w' hw' => by cases bo <;> go_simp) ?_; go_simp; (with_reducible apply hK); clear hK K)
  (refine drift_step (fun K hK => ?_); refine drift_plain (.bool true) (by first | rfl | simp [Region.wanted, yielded]) (fun w' hw' => by go_simp) ?_; go_simp; (with_reducible apply hK); clear hK K)
  (refine drift_step (fun K hK => ?_); refine drift_plain (.bool true) (by first | rfl | simp [Region.wanted, yielded]) (fun w' hw' => by go_simp) ?_; go_simp; (with_reducible apply hK); clear hK K)
  (refine drift_step (fun K hK => ?_); refine drift_loadE (fun w' hw' => P1.out.below hw' P1.out.lt) La.len (by first | rfl | simp [Region.wanted, yielded]) rfl (by go_simp) ?_; go_simp; (with_reducible apply hK); clear hK K)
  (refine drift_step (fun K hK => ?_); refine drift_call (.bool bz) 20 #[.agg (uvals la).toArray] (by first | rfl | simp [Region.wanted, yielded]) (fun w' => by go_simp) (fun w' hw' => (QZ.out w').mono (by rintro e w'' ⟨rfl, hb⟩; exact ⟨rfl, hb⟩)) ?_; go_simp; (with_reducible apply hK); clear hK K)
  (refine drift_step (fun K hK => ?_); refine drift_plain (.slice xo xk xc) (by first | rfl | simp [Region.wanted, yielded]) (fun w' hw' => by go_simp) ?_; go_simp; (with_reducible apply hK); clear hK K)
  (refine drift_step (fun K hK => ?_); refine drift_plain (.int .i64 (xk : Nat)) (by first | rfl | simp [Region.wanted, yielded]) (fun w' hw' => by go_simp) ?_; go_simp; (with_reducible apply hK); clear hK K)
  (refine drift_step (fun K hK => ?_); refine drift_plain (.bool bz) (by first | rfl | simp [Region.wanted, yielded]) (fun w' hw' => by have h := ZZ.out; go_simp; try simp [h]) ?_; go_simp; (with_reducible apply hK); clear hK K)
  (refine drift_step (fun K hK => ?_); refine drift_plain (.bool true) (by first | rfl | simp [Region.wanted, yielded]) (fun w' hw' => by cases bz <;> go_simp) ?_; go_simp; (with_reducible apply hK); clear hK K)
  (refine drift_step (fun K hK => ?_); refine drift_plain (.bool true) (by first | rfl | simp [Region.wanted, yielded]) (fun w' hw' => by go_simp) ?_; go_simp; (with_reducible apply hK); clear hK K)
  (refine drift_step (fun K hK => ?_); refine drift_plain (.bool true) (by first | rfl | simp [Region.wanted, yielded]) (fun w' hw' => by go_simp) ?_; go_simp; (with_reducible apply hK); clear hK K)
  (refine drift_step (fun K hK => ?_); refine drift_plain (.int .u64 (n : Nat)) (by first | rfl | simp [Region.wanted, yielded]) (fun w' hw' => by go_simp) ?_; go_simp; (with_reducible apply hK); clear hK K)
  (refine drift_step (fun K hK => ?_); refine drift_call (.agg (uvals (ls)).toArray) 21 #[.int .u64 n] (by first | rfl | simp [Region.wanted, yielded]) (fun w' => by go_simp) (fun w' hw' => (CS.out w').mono (by rintro e w'' ⟨rfl, hb⟩; exact ⟨rfl, hb⟩)) ?_; go_simp; (with_reducible apply hK); clear hK K)
  (refine drift_step (fun K hK => ?_); refine drift_plain (.int .u64 (n : Nat)) (by first | rfl | simp [Region.wanted, yielded]) (fun w' hw' => by go_simp) ?_; go_simp; (with_reducible apply hK); clear hK K)
  (refine drift_step (fun K hK => ?_); refine drift_plain (.int .u8 (nb n 0 : Nat)) (by first | rfl | simp [Region.wanted, yielded]) (fun w' hw' => by go_simp; exact conv0 n) ?_; go_simp; (with_reducible apply hK); clear hK K)
  (refine drift_step (fun K hK => ?_); refine drift_plain (.int .u64 (n : Nat)) (by first | rfl | simp [Region.wanted, yielded]) (fun w' hw' => by go_simp) ?_; go_simp; (with_reducible apply hK); clear hK K)
  (refine drift_step (fun K hK => ?_); refine drift_plain (.int .u64 (n / 256 ^ 1 : Nat)) (by first | rfl | simp [Region.wanted, yielded]) (fun w' hw' => by go_simp) ?_; go_simp; (with_reducible apply hK); clear hK K)
  (refine drift_step (fun K hK => ?_); refine drift_plain (.int .u8 (nb n 1 : Nat)) (by first | rfl | simp [Region.wanted, yielded]) (fun w' hw' => by go_simp; exact conv_n n 1 _ rfl) ?_; go_simp; (with_reducible apply hK); clear hK K)
  (refine drift_step (fun K hK => ?_); refine drift_plain (.int .u64 (n : Nat)) (by first | rfl | simp [Region.wanted, yielded]) (fun w' hw' => by go_simp) ?_; go_simp; (with_reducible apply hK); clear hK K)
  (refine drift_step (fun K hK => ?_); refine drift_plain (.int .u64 (n / 256 ^ 2 : Nat)) (by first | rfl | simp [Region.wanted, yielded]) (fun w' hw' => by go_simp) ?_; go_simp; (with_reducible apply hK); clear hK K)
  (refine drift_step (fun K hK => ?_); refine drift_plain (.int .u8 (nb n 2 : Nat)) (by first | rfl | simp [Region.wanted, yielded]) (fun w' hw' => by go_simp; exact conv_n n 2 _ rfl) ?_; go_simp; (with_reducible apply hK); clear hK K)
  (refine drift_step (fun K hK => ?_); refine drift_plain (.int .u64 (n : Nat)) (by first | rfl | simp [Region.wanted, yielded]) (fun w' hw' => by go_simp) ?_; go_simp; (with_reducible apply hK); clear hK K)
  (refine drift_step (fun K hK => ?_); refine drift_plain (.int .u64 (n / 256 ^ 3 : Nat)) (by first | rfl | simp [Region.wanted, yielded]) (fun w' hw' => by go_simp) ?_; go_simp; (with_reducible apply hK); clear hK K)
  (refine drift_step (fun K hK => ?_); refine drift_plain (.int .u8 (nb n 3 : Nat)) (by first | rfl | simp [Region.wanted, yielded]) (fun w' hw' => by go_simp; exact conv_n n 3 _ rfl) ?_; go_simp; (with_reducible apply hK); clear hK K)
  (refine drift_step (fun K hK => ?_); refine drift_plain (.int .u64 (n : Nat)) (by first | rfl | simp [Region.wanted, yielded]) (fun w' hw' => by go_simp) ?_; go_simp; (with_reducible apply hK); clear hK K)
  (refine drift_step (fun K hK => ?_); refine drift_plain (.int .u64 (n / 256 ^ 4 : Nat)) (by first | rfl | simp [Region.wanted, yielded]) (fun w' hw' => by go_simp) ?_; go_simp; (with_reducible apply hK); clear hK K)
  (refine drift_step (fun K hK => ?_); refine drift_plain (.int .u8 (nb n 4 : Nat)) (by first | rfl | simp [Region.wanted, yielded]) (fun w' hw' => by go_simp; exact conv_n n 4 _ rfl) ?_; go_simp; (with_reducible apply hK); clear hK K)
  (refine drift_step (fun K hK => ?_); refine drift_plain (.int .u64 (n : Nat)) (by first | rfl | simp [Region.wanted, yielded]) (fun w' hw' => by go_simp) ?_; go_simp; (with_reducible apply hK); clear hK K)
  (refine drift_step (fun K hK => ?_); refine drift_plain (.int .u64 (n / 256 ^ 5 : Nat)) (by first | rfl | simp [Region.wanted, yielded]) (fun w' hw' => by go_simp) ?_; go_simp; (with_reducible apply hK); clear hK K)
  (refine drift_step (fun K hK => ?_); refine drift_plain (.int .u8 (nb n 5 : Nat)) (by first | rfl | simp [Region.wanted, yielded]) (fun w' hw' => by go_simp; exact conv_n n 5 _ rfl) ?_; go_simp; (with_reducible apply hK); clear hK K)
  (refine drift_step (fun K hK => ?_); refine drift_plain (.int .u64 (n : Nat)) (by first | rfl | simp [Region.wanted, yielded]) (fun w' hw' => by go_simp) ?_; go_simp; (with_reducible apply hK); clear hK K)
  (refine drift_step (fun K hK => ?_); refine drift_plain (.int .u64 (n / 256 ^ 6 : Nat)) (by first | rfl | simp [Region.wanted, yielded]) (fun w' hw' => by go_simp) ?_; go_simp; (with_reducible apply hK); clear hK K)
  (refine drift_step (fun K hK => ?_); refine drift_plain (.int .u8 (nb n 6 : Nat)) (by first | rfl | simp [Region.wanted, yielded]) (fun w' hw' => by go_simp; exact conv_n n 6 _ rfl) ?_; go_simp; (with_reducible apply hK); clear hK K)
  (refine drift_step (fun K hK => ?_); refine drift_plain (.int .u64 (n : Nat)) (by first | rfl | simp [Region.wanted, yielded]) (fun w' hw' => by go_simp) ?_; go_simp; (with_reducible apply hK); clear hK K)
  (refine drift_step (fun K hK => ?_); refine drift_plain (.int .u64 (n / 256 ^ 7 : Nat)) (by first | rfl | simp [Region.wanted, yielded]) (fun w' hw' => by go_simp) ?_; go_simp; (with_reducible apply hK); clear hK K)
  (refine drift_step (fun K hK => ?_); refine drift_plain (.int .u8 (nb n 7 : Nat)) (by first | rfl | simp [Region.wanted, yielded]) (fun w' hw' => by go_simp; exact conv_n n 7 _ rfl) ?_; go_simp; (with_reducible apply hK); clear hK K)
  refine drift_nil ?_
  refine driftT_make (Rw.refl _) (by first | rfl | simp [Region.wanted, yielded]) (G := fun v w' => ∃ c, v = .slice (some ⟨c, 0, none⟩) 8 8 ∧ Blk w' c 5 (bvals (bytes8 n))) (fun w1 h1 => ?_) ?_
  · refine ⟨.slice (some ⟨w1.heap.size, 0, none⟩) 8 8, w1.alloc (.cells (bvals (bytes8 n)).toArray 5), ?_, (Below.refl _ _).alloc (Nat.le_refl _) _, ⟨_, rfl, Blk.new w1 _ _⟩⟩
    go_simp
    rw [bytes8_cells]
  rintro _ w6 h6 ⟨c, rfl, B6⟩
  have L8 : Hid ((bytes8 n).length = 8) := rfl
  have cvt := fun (w' : World) (h : Blk w' c 5 (bvals (bytes8 n))) => conv_blk (P := Try.prog) (src := 35) (dst := 9) Try.underlying35 Try.underlying5 Try.underlying9 L8.out h
  have LE : Hid (le8 (bytes8 n) = n) := le8_bytes8 n hn
  generalize bytes8 n = X at *
  go_simp
  refine driftT_plain (.string ⟨X.toArray⟩) h6 (by first | rfl | simp [Region.wanted, yielded]) (fun w1 h1 => by have h := cvt w1 (B6.below h1 B6.lt); go_simp; try simp [h]) (fun w7 h7 => ?_)
  have h67 := Rw.trans h6 h7
  go_simp
  refine driftT_call 22 #[.string ⟨X.toArray⟩] h67 (by first | rfl | simp [Region.wanted, yielded]) (fun w' => by go_simp) (G := fun v w' => Hid (Num w' v n)) (fun w1 h1 => (of_ok ⟨X.toArray⟩ w1 (by show X.toArray.size ≤ 65536; rw [List.size_toArray, L8.out]; omega)).mono (by rintro e w'' ⟨v, rfl, hnum, hb⟩; exact ⟨v, rfl, by rw [← LE.out]; exact hnum, hb⟩)) (fun vy w8 h8 Ny => ?_)
  have h68 := Rw.trans h67 h8
  go_simp
  have hnp : n < pP := Nat.lt_trans hn (by decide)
  refine driftT_call 17 #[.agg (uvals ls).toArray, vy] h68 (by first | rfl | simp [Region.wanted, yielded]) (fun w' => by go_simp) (G := fun v w' => v = .bool true) (fun w1 h1 => (elIs (El.of Ls) (Ny.out.below h1) hnp).mono (by rintro e w'' ⟨rfl, hb⟩; exact ⟨_, rfl, by rw [decide_eq_true (show (Fp.ofN n).val = n from Nat.mod_eq_of_lt hnp)], hb⟩)) (fun v9 w9 h9 e9 => ?_)
  subst e9
  have h69 := Rw.trans h68 h9
  go_simp
  refine driftT_plain (.bool true) h69 (by first | rfl | simp [Region.wanted, yielded]) (fun w1 h1 => by go_simp) (fun wa ha => ?_)
  have h6a := Rw.trans h69 ha
  go_simp
  refine driftT_plain (.bool true) h6a (by first | rfl | simp [Region.wanted, yielded]) (fun w1 h1 => by go_simp) (fun wb hb => ?_)
  have h6b := Rw.trans h6a hb
  refine driftT_nil (fun wc hc => ?_)
  have h6c := Rw.trans h6b hc
  go_simp
  go_wp2_with fail
  go_ret
  exact ⟨rfl, BW.trans (Below.mono h6c BW.size)⟩
end Go.Proofs.Ytopelehfffjfeaa
