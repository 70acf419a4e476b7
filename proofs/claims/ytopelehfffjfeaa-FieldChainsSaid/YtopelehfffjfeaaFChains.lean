/-
FieldChains, walked.
-/
import Derived.Test.YtopelehfffjfeaaFLaw2
import Derived.Test.YtopelehfffjfeaaCut
import Derived.LoopTactic
namespace Go.Proofs.Ytopelehfffjfeaa
open Go.RowKit

theorem low3 (n : Int) : ∃ m : Nat, m < 8 ∧ bits .and .i64 n 7 = (m : Int) := by
  have key : (BitVec.ofInt 64 n &&& BitVec.ofInt 64 7).toNat = (BitVec.ofInt 64 n).toNat % 8 := by
    rw [BitVec.toNat_and, show (BitVec.ofInt 64 7).toNat = 2 ^ 3 - 1 by decide, Nat.and_two_pow_sub_one_eq_mod]
  have hm : (BitVec.ofInt 64 n).toNat % 8 < 8 := Nat.mod_lt _ (by decide)
  refine ⟨(BitVec.ofInt 64 n).toNat % 8, hm, ?_⟩
  show IntKind.i64.wrap ((BitVec.ofInt 64 n &&& BitVec.ofInt 64 7).toNat : Nat) = _
  rw [key, IntKind.wrap_i64]
  omega
/-- the acts -/
def Acts2 (w : World) (a : Option Addr) (len : Nat) : Prop :=
  ∀ k, k < len → ∃ (b off : Nat) (kd : Int) (s : ByteArray), a = some ⟨b, off, none⟩ ∧ b < w.heap.size ∧ w.cell? ⟨b, off + k * 2, none⟩ = some (.int .i64 kd) ∧ w.cell? ⟨b, off + k * 2 + 1, none⟩ = some (.string s)
theorem Num.row {w : World} {b : Nat} {t : TypeId} {l : List Nat} {v : Value} {n : Nat} (h : Num w v n) (hb : Blk w b t (uvals l)) (r : Array Value) : Num (w.setRow b r) v n := by
  obtain ⟨L, ⟨hs, a, cap, rfl, h1, h2, hc⟩, hC, hn⟩ := h
  refine ⟨L, ⟨hs, a, cap, rfl, h1, h2, fun i hi => ?_⟩, hC, hn⟩
  obtain ⟨c, off, ha, hci⟩ := hc i hi
  refine ⟨c, off, ha, ?_⟩
  by_cases e : c = b
  · exfalso
    subst e
    unfold Blk at hb
    simp only [World.cell?, hb, Option.isSome_none, Bool.false_eq_true, if_false, List.getElem?_toArray] at hci
    simp [uvals] at hci
  · rw [World.cell?_of_block (w := w) (w' := w.setRow b r) (a := ⟨c, off + i, none⟩) (setRow_other _ _ _ _ (fun e2 => e e2))]
    exact hci
structure CH (w wr : World) (ba bb : Nat) (a b : Fp) (la lb : List Nat) (vx vy : Value) : Prop where
  pa : Blk wr ba tE (uvals la)
  pb : Blk wr bb tE (uvals lb)
  ma : Lm la a.val
  mb : Lm lb b.val
  nx : Num wr vx a.val
  ny : Num wr vy b.val
  ne : ba ≠ bb
  na : w.heap.size ≤ ba
  nb : w.heap.size ≤ bb
  bel : Below w.heap.size w wr
theorem CH.below {w wr wr' : World} {ba bb : Nat} {a b : Fp} {la lb : List Nat} {vx vy : Value} (h : CH w wr ba bb a b la lb vx vy) (hb : Below wr.heap.size wr wr') : CH w wr' ba bb a b la lb vx vy :=
  ⟨h.pa.below hb h.pa.lt, h.pb.below hb h.pb.lt, h.ma, h.mb, h.nx.below hb, h.ny.below hb, h.ne, h.na, h.nb, h.bel.trans (hb.mono h.bel.size)⟩
theorem CH.seta {w wr : World} {ba bb : Nat} {a b c : Fp} {la lb l : List Nat} {vx vy v : Value} (h : CH w wr ba bb a b la lb vx vy) (hl : Lm l c.val) (hv : Num wr v c.val) : CH w (wr.setRow ba (uvals l).toArray) ba bb c b l lb v vy :=
  ⟨h.pa.setRow _, h.pb.farRow (Ne.symm h.ne) _, hl, h.mb, hv.row h.pa _, h.ny.row h.pa _, h.ne, h.na, h.nb, below_row h.bel _ _ h.na⟩
theorem CH.setb {w wr : World} {ba bb : Nat} {a b c : Fp} {la lb l : List Nat} {vx vy v : Value} (h : CH w wr ba bb a b la lb vx vy) (hl : Lm l c.val) (hv : Num wr v c.val) : CH w (wr.setRow bb (uvals l).toArray) ba bb a c la l vx v :=
  ⟨h.pa.farRow h.ne _, h.pb.setRow _, h.ma, hl, h.nx.row h.pb _, hv.row h.pb _, h.ne, h.na, h.nb, below_row h.bel _ _ h.nb⟩
set_option maxHeartbeats 8000000 in
set_option maxRecDepth 100000 in
theorem chains_ok (s : ByteArray) (ao : Option Addr) (len cap : Nat) (w : World) (hacts : Acts2 w ao len) (hlen : len ≤ 9223372036854775807) :
    Calls Try.prog 7 #[.string s, .slice ao len cap] w (Tells w true) := by
  have HC := Lib.hid hacts
  clear hacts
  go_enter Try.func7, Try.ntmps7
  go_wp2_with fail
  refine (awake_ok w).mono ?_
  rintro e w1 ⟨rfl, BW⟩
  go_wp2_with fail
  refine (cut_ok s 32 w1).mono ?_
  rintro e _ ⟨rfl, rfl⟩
  generalize hs1 : s.extract 0 32 = s1
  have HS1 := Lib.hid hs1
  clear hs1
  go_wp2_with fail
  refine (elOf s1 w1).mono ?_
  rintro e w2 ⟨va, rfl, Ea, b2⟩
  obtain ⟨la, rfl, La⟩ := Ea
  go_upto_region 4 with (refine new1 rfl rfl rfl rfl rfl La.len (by go_simp) (by go_simp) (fun w3 P => ?_))
  go_simp
  go_wp2_with fail
  refine (cut_ok s 32 w3).mono ?_
  rintro e _ ⟨rfl, rfl⟩
  rw [HS1.out]
  go_wp2_with fail
  refine (rfOf s1 w3).mono ?_
  rintro e w4 ⟨vx, rfl, Nx, hb⟩
  replace P := P.below hb
  clear hb
  generalize fpOf s1 = a at *
  go_upto_region 6 with (first | refine load_el2 P.1 La.len rfl rfl rfl ?_ | refine new1 rfl rfl rfl rfl rfl La.len (by go_simp) (by go_simp) (fun w5 R => ?_))
  go_simp
  have hz := P.1.lt
  have H0 : CH w w5 w2.heap.size w4.heap.size a a la la vx vx := ⟨P.1.below R.2 hz, R.1, La, La, Nx.below R.2, Nx.below R.2, by omega, Nat.le_trans BW.size b2.size, by have := BW.size; have := b2.size; omega, (BW.trans (b2.mono BW.size)).trans ((P.2.trans (R.2.mono P.2.size)).mono (Nat.le_trans BW.size b2.size))⟩
  generalize w2.heap.size = ba at *
  generalize w4.heap.size = bb at *
  clear P R Nx BW b2 hz La
  go_wp2_with fail
  go_loopw [6, 8, 9] (fun v6 v8 v9 wr => ∃ (i : Nat) (a b : Fp) (la lb : List Nat), v9 = .int .i64 i ∧ i ≤ 40 ∧ CH w wr ba bb a b la lb v6 v8) (fun _ _ v9 _ => 40 - (intOf v9).toNat)
  case atStart => exact ⟨0, _, _, _, _, rfl, by omega, H0⟩
  case round =>
    clear H0
    obtain ⟨i, a, b, la, lb, rfl, hi, H⟩ := hrel
    have La := H.ma
    have Lb := H.mb
    by_cases hgo : i < len ∧ i < 40
    · obtain ⟨hgl, hg40⟩ := hgo
      obtain ⟨cb, co, kd, st, rfl, hcb, hc0, hc1⟩ := HC.out i hgl
      have hk0 : wr.cell? ⟨cb, co + i * 2, none⟩ = some (.int .i64 kd) := by rw [H.bel.cell (p := ⟨cb, co + i * 2, none⟩) hcb]; exact hc0
      have hk1 : wr.cell? ⟨cb, co + i * 2 + 1, none⟩ = some (.string st) := by rw [H.bel.cell (p := ⟨cb, co + i * 2 + 1, none⟩) hcb]; exact hc1
      clear hc0 hc1 hcb
      obtain ⟨m, hm, hkm⟩ := low3 kd
      obtain hm | hm | hm | hm | hm | hm | hm | hm : m = 0 ∨ m = 1 ∨ m = 2 ∨ m = 3 ∨ m = 4 ∨ m = 5 ∨ m = 6 ∨ m = 7 := by omega
      · subst hm
        go_wp2_with (first | refine load_el2 H.pa La.len rfl rfl rfl ?_ | refine load_el2 H.pb Lb.len rfl rfl rfl ?_)
        refine (elAdd (El.of La) (El.of Lb) wr).mono ?_
        rintro e w4 ⟨vn, rfl, En, hb⟩
        replace H := H.below hb
        clear hb
        obtain ⟨ln, rfl, Ln⟩ := En
        go_wp2_with fail
        refine (rfAdd H.nx H.ny).mono ?_
        rintro e w5 ⟨nn, rfl, Nn, hb⟩
        replace H := H.below hb
        clear hb
        go_upto_region 25 with (refine store_el (Lib.hid H.pa) (Lib.hid La.len) (Lib.hid Ln.len) rfl rfl rfl rfl ?_)
        replace H := H.seta Ln Nn
        refine wp_gen (fun wx => CH w wx ba bb (a + b) b ln lb nn u8) H ?_
        intro w6 H
        have La := H.ma
        go_wp2_with (first | refine load_el2 H.pa La.len rfl rfl rfl ?_ | refine load_el2 H.pb Lb.len rfl rfl rfl ?_)
        refine (elIs' (El.of La) H.nx).mono ?_
        rintro e w7 ⟨rfl, hb⟩
        rw [decide_eq_true rfl]
        replace H := H.below hb
        clear hb
        go_wp2_with fail
        go_roundw
        case rel => exact ⟨i + 1, _, _, _, _, by go_num, by omega, H⟩
        case measure => simp [intOf]; omega
      · subst hm
        go_wp2_with (first | refine load_el2 H.pa La.len rfl rfl rfl ?_ | refine load_el2 H.pb Lb.len rfl rfl rfl ?_)
        refine (elAdd (El.of La) (El.of Lb) wr).mono ?_
        rintro e w4 ⟨vn, rfl, En, hb⟩
        replace H := H.below hb
        clear hb
        obtain ⟨ln, rfl, Ln⟩ := En
        go_wp2_with fail
        refine (rfAdd H.nx H.ny).mono ?_
        rintro e w5 ⟨nn, rfl, Nn, hb⟩
        replace H := H.below hb
        clear hb
        go_upto_region 25 with (refine store_el (Lib.hid H.pa) (Lib.hid La.len) (Lib.hid Ln.len) rfl rfl rfl rfl ?_)
        replace H := H.seta Ln Nn
        refine wp_gen (fun wx => CH w wx ba bb (a + b) b ln lb nn u8) H ?_
        intro w6 H
        have La := H.ma
        go_wp2_with (first | refine load_el2 H.pa La.len rfl rfl rfl ?_ | refine load_el2 H.pb Lb.len rfl rfl rfl ?_)
        refine (elIs' (El.of La) H.nx).mono ?_
        rintro e w7 ⟨rfl, hb⟩
        rw [decide_eq_true rfl]
        replace H := H.below hb
        clear hb
        go_wp2_with fail
        go_roundw
        case rel => exact ⟨i + 1, _, _, _, _, by go_num, by omega, H⟩
        case measure => simp [intOf]; omega
      · subst hm
        go_wp2_with (first | refine load_el2 H.pa La.len rfl rfl rfl ?_ | refine load_el2 H.pb Lb.len rfl rfl rfl ?_)
        refine (elSub (El.of La) (El.of Lb) wr).mono ?_
        rintro e w4 ⟨vn, rfl, En, hb⟩
        replace H := H.below hb
        clear hb
        obtain ⟨ln, rfl, Ln⟩ := En
        go_wp2_with fail
        refine (rfSub H.nx H.ny).mono ?_
        rintro e w5 ⟨nn, rfl, Nn, hb⟩
        replace H := H.below hb
        clear hb
        go_upto_region 25 with (refine store_el (Lib.hid H.pa) (Lib.hid La.len) (Lib.hid Ln.len) rfl rfl rfl rfl ?_)
        replace H := H.seta Ln Nn
        refine wp_gen (fun wx => CH w wx ba bb (a - b) b ln lb nn u8) H ?_
        intro w6 H
        have La := H.ma
        go_wp2_with (first | refine load_el2 H.pa La.len rfl rfl rfl ?_ | refine load_el2 H.pb Lb.len rfl rfl rfl ?_)
        refine (elIs' (El.of La) H.nx).mono ?_
        rintro e w7 ⟨rfl, hb⟩
        rw [decide_eq_true rfl]
        replace H := H.below hb
        clear hb
        go_wp2_with fail
        go_roundw
        case rel => exact ⟨i + 1, _, _, _, _, by go_num, by omega, H⟩
        case measure => simp [intOf]; omega
      · subst hm
        go_wp2_with (first | refine load_el2 H.pa La.len rfl rfl rfl ?_ | refine load_el2 H.pb Lb.len rfl rfl rfl ?_)
        refine (elMul (El.of La) (El.of Lb) wr).mono ?_
        rintro e w4 ⟨vn, rfl, En, hb⟩
        replace H := H.below hb
        clear hb
        obtain ⟨ln, rfl, Ln⟩ := En
        go_wp2_with fail
        refine (rfMul H.nx H.ny).mono ?_
        rintro e w5 ⟨nn, rfl, Nn, hb⟩
        replace H := H.below hb
        clear hb
        go_upto_region 25 with (refine store_el (Lib.hid H.pa) (Lib.hid La.len) (Lib.hid Ln.len) rfl rfl rfl rfl ?_)
        replace H := H.seta Ln Nn
        refine wp_gen (fun wx => CH w wx ba bb (a * b) b ln lb nn u8) H ?_
        intro w6 H
        have La := H.ma
        go_wp2_with (first | refine load_el2 H.pa La.len rfl rfl rfl ?_ | refine load_el2 H.pb Lb.len rfl rfl rfl ?_)
        refine (elIs' (El.of La) H.nx).mono ?_
        rintro e w7 ⟨rfl, hb⟩
        rw [decide_eq_true rfl]
        replace H := H.below hb
        clear hb
        go_wp2_with fail
        go_roundw
        case rel => exact ⟨i + 1, _, _, _, _, by go_num, by omega, H⟩
        case measure => simp [intOf]; omega
      · subst hm
        have Q2 := H.seta Lb H.ny
        go_upto_region 25 with (first | refine store_el (Lib.hid H.pa) (Lib.hid La.len) (Lib.hid Lb.len) rfl rfl rfl rfl ?_ | refine store_el (Lib.hid Q2.pb) (Lib.hid Lb.len) (Lib.hid La.len) rfl rfl rfl rfl ?_ | refine load_el2 H.pa La.len rfl rfl rfl ?_ | refine load_el2 H.pb Lb.len rfl rfl rfl ?_)
        replace H := Q2.setb La (H.nx.row H.pa _)
        clear Q2
        refine wp_gen (fun wx => CH w wx ba bb b a lb la u8 u6) H ?_
        intro w6 H
        have La := H.ma
        go_wp2_with (first | refine load_el2 H.pa La.len rfl rfl rfl ?_ | refine load_el2 H.pb Lb.len rfl rfl rfl ?_)
        refine (elIs' (El.of La) H.nx).mono ?_
        rintro e w7 ⟨rfl, hb⟩
        rw [decide_eq_true rfl]
        replace H := H.below hb
        clear hb
        go_wp2_with fail
        go_roundw
        case rel => exact ⟨i + 1, _, _, _, _, by go_num, by omega, H⟩
        case measure => simp [intOf]; omega
      · subst hm
        go_wp2_with (first | refine load_el2 H.pa La.len rfl rfl rfl ?_ | refine load_el2 H.pb Lb.len rfl rfl rfl ?_)
        refine (elNeg (El.of La) wr).mono ?_
        rintro e w4 ⟨vn, rfl, En, hb⟩
        replace H := H.below hb
        clear hb
        obtain ⟨ln, rfl, Ln⟩ := En
        go_wp2_with fail
        refine (rfNeg H.nx).mono ?_
        rintro e w5 ⟨nn, rfl, Nn, hb⟩
        replace H := H.below hb
        clear hb
        go_upto_region 25 with (refine store_el (Lib.hid H.pb) (Lib.hid Lb.len) (Lib.hid Ln.len) rfl rfl rfl rfl ?_)
        replace H := H.setb Ln Nn
        refine wp_gen (fun wx => CH w wx ba bb a (-a) la ln u6 nn) H ?_
        intro w6 H
        have La := H.ma
        go_wp2_with (first | refine load_el2 H.pa La.len rfl rfl rfl ?_ | refine load_el2 H.pb Lb.len rfl rfl rfl ?_)
        refine (elIs' (El.of La) H.nx).mono ?_
        rintro e w7 ⟨rfl, hb⟩
        rw [decide_eq_true rfl]
        replace H := H.below hb
        clear hb
        go_wp2_with fail
        go_roundw
        case rel => exact ⟨i + 1, _, _, _, _, by go_num, by omega, H⟩
        case measure => simp [intOf]; omega
      · subst hm
        go_wp2_with (first | refine load_el2 H.pa La.len rfl rfl rfl ?_ | refine load_el2 H.pb Lb.len rfl rfl rfl ?_)
        refine (elSquare (El.of La) wr).mono ?_
        rintro e w4 ⟨vn, rfl, En, hb⟩
        replace H := H.below hb
        clear hb
        obtain ⟨ln, rfl, Ln⟩ := En
        go_wp2_with fail
        refine (rfMul H.nx H.nx).mono ?_
        rintro e w5 ⟨nn, rfl, Nn, hb⟩
        replace H := H.below hb
        clear hb
        go_upto_region 25 with (refine store_el (Lib.hid H.pa) (Lib.hid La.len) (Lib.hid Ln.len) rfl rfl rfl rfl ?_)
        replace H := H.seta Ln Nn
        refine wp_gen (fun wx => CH w wx ba bb (a * a) b ln lb nn u8) H ?_
        intro w6 H
        have La := H.ma
        go_wp2_with (first | refine load_el2 H.pa La.len rfl rfl rfl ?_ | refine load_el2 H.pb Lb.len rfl rfl rfl ?_)
        refine (elIs' (El.of La) H.nx).mono ?_
        rintro e w7 ⟨rfl, hb⟩
        rw [decide_eq_true rfl]
        replace H := H.below hb
        clear hb
        go_wp2_with fail
        go_roundw
        case rel => exact ⟨i + 1, _, _, _, _, by go_num, by omega, H⟩
        case measure => simp [intOf]; omega
      · subst hm
        go_wp2_with fail
        refine (cut_ok st 32 wr).mono ?_
        rintro e _ ⟨rfl, rfl⟩
        generalize st.extract 0 32 = s2
        go_wp2_with fail
        refine (elOf s2 wr).mono ?_
        rintro e w4 ⟨vn, rfl, En, hb⟩
        replace H := H.below hb
        clear hb
        obtain ⟨ln, rfl, Ln⟩ := En
        go_wp2_with fail
        refine (rfOf s2 w4).mono ?_
        rintro e w5 ⟨nn, rfl, Nn, hb⟩
        replace H := H.below hb
        clear hb
        go_upto_region 25 with (refine store_el (Lib.hid H.pb) (Lib.hid Lb.len) (Lib.hid Ln.len) rfl rfl rfl rfl ?_)
        replace H := H.setb Ln Nn
        refine wp_gen (fun wx => CH w wx ba bb a (fpOf s2) la ln u6 nn) H ?_
        intro w6 H
        have La := H.ma
        go_wp2_with (first | refine load_el2 H.pa La.len rfl rfl rfl ?_ | refine load_el2 H.pb Lb.len rfl rfl rfl ?_)
        refine (elIs' (El.of La) H.nx).mono ?_
        rintro e w7 ⟨rfl, hb⟩
        rw [decide_eq_true rfl]
        replace H := H.below hb
        clear hb
        go_wp2_with fail
        go_roundw
        case rel => exact ⟨i + 1, _, _, _, _, by go_num, by omega, H⟩
        case measure => simp [intOf]; omega
    · clear hi
      have hend : (i : Int) < len → ¬ (i : Int) < 40 := fun h1 h2 => hgo ⟨by omega, by omega⟩
      go_upto_region 27 with fail
      all_goals
        have D1 : Below wr.heap.size wr wr.drew := below_drewN (Below.refl _ _) 1
        have H1 : Blk wr.drew ba tE (uvals la) := H.pa.below D1 H.pa.lt
        have H2 : Blk wr.drew bb tE (uvals lb) := H.pb.below D1 H.pb.lt
        have HN := Lib.hid (H.ny.below D1)
        have BW := H.bel.trans (D1.mono H.bel.size)
        obtain ⟨l21, L21, C21⟩ := qChoose true La Lb
        have C22 := qSame L21 La (c := true) (decide_eq_true (show (a : Fp) = a by rfl))
        obtain ⟨l23, L23, C23⟩ := qChoose false La Lb
        have C24 := qSame L23 Lb (c := true) (decide_eq_true (show (b : Fp) = b by rfl))
        refine region_quiet (C := fun w' => Below wr.drew.heap.size wr.drew w') (by kernel_rfl) (by kernel_rfl) (Below.refl _ _) ?_
        ((with_reducible refine wpQuiet_step (fun K hK => ?_)); refine quiet_loadE (fun w' hw' => (H2).below hw' (H2).lt) Lb.len (by first | rfl | simp [Region.wanted, yielded]) rfl (by go_simp) ?_; go_simp; (with_reducible apply hK); clear hK K)
        ((with_reducible refine wpQuiet_step (fun K hK => ?_)); refine quiet_plainG (u8) (by first | rfl | simp [Region.wanted, yielded]) (fun w' hw' => by go_simp) ?_; go_simp; (with_reducible apply hK); clear hK K)
        ((with_reducible refine wpQuiet_step (fun K hK => ?_)); refine quiet_callG (.bool true) 17 #[.agg (uvals lb).toArray, u8] (by first | rfl | simp [Region.wanted, yielded]) (fun w' => by go_simp) (fun w' hw' => (tells (elIs' (El.of Lb) (HN.out.below hw')) (decide_eq_true rfl)).mono (by rintro e w'' ⟨rfl, hb⟩; exact ⟨rfl, hw'.trans (hb.mono hw'.size)⟩)) ?_; go_simp; (with_reducible apply hK); clear hK K)
        ((with_reducible refine wpQuiet_step (fun K hK => ?_)); refine quiet_plainG (.bool true) (by first | rfl | simp [Region.wanted, yielded]) (fun w' hw' => by go_simp) ?_; go_simp; (with_reducible apply hK); clear hK K)
        ((with_reducible refine wpQuiet_step (fun K hK => ?_)); refine quiet_loadE (fun w' hw' => (H1).below hw' (H1).lt) La.len (by first | rfl | simp [Region.wanted, yielded]) rfl (by go_simp) ?_; go_simp; (with_reducible apply hK); clear hK K)
        ((with_reducible refine wpQuiet_step (fun K hK => ?_)); refine quiet_loadE (fun w' hw' => (H2).below hw' (H2).lt) Lb.len (by first | rfl | simp [Region.wanted, yielded]) rfl (by go_simp) ?_; go_simp; (with_reducible apply hK); clear hK K)
        ((with_reducible refine wpQuiet_step (fun K hK => ?_)); refine quiet_callG (.agg (uvals (l21)).toArray) 35 #[.bool true, .agg (uvals la).toArray, .agg (uvals lb).toArray] (by first | rfl | simp [Region.wanted, yielded]) (fun w' => by go_simp) (fun w' hw' => (C21 w').mono (by rintro e w'' ⟨rfl, hb⟩; exact ⟨rfl, hw'.trans (hb.mono hw'.size)⟩)) ?_; go_simp; (with_reducible apply hK); clear hK K)
        ((with_reducible refine wpQuiet_step (fun K hK => ?_)); refine quiet_loadE (fun w' hw' => (H1).below hw' (H1).lt) La.len (by first | rfl | simp [Region.wanted, yielded]) rfl (by go_simp) ?_; go_simp; (with_reducible apply hK); clear hK K)
        ((with_reducible refine wpQuiet_step (fun K hK => ?_)); refine quiet_callG (.bool true) 25 #[.agg (uvals l21).toArray, .agg (uvals la).toArray] (by first | rfl | simp [Region.wanted, yielded]) (fun w' => by go_simp) (fun w' hw' => (C22 w').mono (by rintro e w'' ⟨rfl, hb⟩; exact ⟨rfl, hw'.trans (hb.mono hw'.size)⟩)) ?_; go_simp; (with_reducible apply hK); clear hK K)
        ((with_reducible refine wpQuiet_step (fun K hK => ?_)); refine quiet_plainG (.bool true) (by first | rfl | simp [Region.wanted, yielded]) (fun w' hw' => by go_simp) ?_; go_simp; (with_reducible apply hK); clear hK K)
        ((with_reducible refine wpQuiet_step (fun K hK => ?_)); refine quiet_plainG (.bool true) (by first | rfl | simp [Region.wanted, yielded]) (fun w' hw' => by go_simp) ?_; go_simp; (with_reducible apply hK); clear hK K)
        ((with_reducible refine wpQuiet_step (fun K hK => ?_)); refine quiet_loadE (fun w' hw' => (H1).below hw' (H1).lt) La.len (by first | rfl | simp [Region.wanted, yielded]) rfl (by go_simp) ?_; go_simp; (with_reducible apply hK); clear hK K)
        ((with_reducible refine wpQuiet_step (fun K hK => ?_)); refine quiet_loadE (fun w' hw' => (H2).below hw' (H2).lt) Lb.len (by first | rfl | simp [Region.wanted, yielded]) rfl (by go_simp) ?_; go_simp; (with_reducible apply hK); clear hK K)
        ((with_reducible refine wpQuiet_step (fun K hK => ?_)); refine quiet_callG (.agg (uvals (l23)).toArray) 35 #[.bool false, .agg (uvals la).toArray, .agg (uvals lb).toArray] (by first | rfl | simp [Region.wanted, yielded]) (fun w' => by go_simp) (fun w' hw' => (C23 w').mono (by rintro e w'' ⟨rfl, hb⟩; exact ⟨rfl, hw'.trans (hb.mono hw'.size)⟩)) ?_; go_simp; (with_reducible apply hK); clear hK K)
        ((with_reducible refine wpQuiet_step (fun K hK => ?_)); refine quiet_loadE (fun w' hw' => (H2).below hw' (H2).lt) Lb.len (by first | rfl | simp [Region.wanted, yielded]) rfl (by go_simp) ?_; go_simp; (with_reducible apply hK); clear hK K)
        ((with_reducible refine wpQuiet_step (fun K hK => ?_)); refine quiet_callG (.bool true) 25 #[.agg (uvals l23).toArray, .agg (uvals lb).toArray] (by first | rfl | simp [Region.wanted, yielded]) (fun w' => by go_simp) (fun w' hw' => (C24 w').mono (by rintro e w'' ⟨rfl, hb⟩; exact ⟨rfl, hw'.trans (hb.mono hw'.size)⟩)) ?_; go_simp; (with_reducible apply hK); clear hK K)
        ((with_reducible refine wpQuiet_step (fun K hK => ?_)); refine quiet_plainG (.bool true) (by first | rfl | simp [Region.wanted, yielded]) (fun w' hw' => by go_simp) ?_; go_simp; (with_reducible apply hK); clear hK K)
        ((with_reducible refine wpQuiet_step (fun K hK => ?_)); refine quiet_plainG (.bool true) (by first | rfl | simp [Region.wanted, yielded]) (fun w' hw' => by go_simp) ?_; go_simp; (with_reducible apply hK); clear hK K)
        refine wpQuiet_nil ?_
        intro w6 hw6
        go_wp2_with fail
        go_ret
        exact ⟨rfl, BW.trans (hw6.mono BW.size)⟩
end Go.Proofs.Ytopelehfffjfeaa
