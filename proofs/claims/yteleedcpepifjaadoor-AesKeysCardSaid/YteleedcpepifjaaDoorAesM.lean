/-
The walk of mix.
-/
import Derived.Test.YteleedcpepifjaaDoorAesK
namespace Go.Proofs.YteleedcpepifjaaDoor
open Go.RowKit AesP
set_option maxRecDepth 100000
theorem tmF_lt : ∀ (n out a b : Nat), out < 256 → a < 256 → tmF n out a b < 256
  | 0, out, a, b, ho, _ => ho
  | n + 1, out, a, b, ho, ha => by
    show (if b = 0 then out else _) < 256
    split
    · exact ho
    · refine tmF_lt n _ _ _ (xor_lt ho ?_) (tw_lt ha)
      rcases Nat.mod_two_eq_zero_or_one b with h | h <;> rw [h] <;> omega
theorem times_lt {a : Nat} (b : Nat) (ha : a < 256) : times a b < 256 := tmF_lt 8 0 a b (by decide) ha
theorem mixA_lt (m : List Nat) {s : List Nat} (hs : By s) (i : Nat) : ∀ k, mixA m s i k < 256
  | 0 => by show 0 < 256; decide
  | k + 1 => xor_lt (mixA_lt m hs i k) (times_lt _ (hs.get _))
theorem Blk.new4 (w : World) (o o2 o3 : Obj) (t : TypeId) (cs : List Value) : Blk ((((w.alloc o).alloc o2).alloc o3).alloc (.cells cs.toArray t (0, 0))) (w.heap.size + 3) t cs := by
  have := Blk.new (((w.alloc o).alloc o2).alloc o3) t cs
  rwa [show (((w.alloc o).alloc o2).alloc o3).heap.size = w.heap.size + 3 by simp] at this
theorem below4 (w : World) (o o2 o3 o4 : Obj) : Below w.heap.size w ((((w.alloc o).alloc o2).alloc o3).alloc o4) := (below3 w o o2 o3).alloc (by simp; omega) _
def mxL (m s : List Nat) (i k : Nat) : List Nat := (bl (fun j => mixA m s j 4) (fun i => z16.getD i 0) i 16).set i (mixA m s i k)
theorem z16_at (i : Nat) : z16.getD i 0 = 0 := by
  unfold z16
  rcases Nat.lt_or_ge i 16 with h | h
  · have : ∀ i : Fin 16, ([0, 0, 0, 0, 0, 0, 0, 0, 0, 0, 0, 0, 0, 0, 0, 0] : List Nat).getD i 0 = 0 := by decide
    exact this ⟨i, h⟩
  · rw [List.getD_eq_getElem?_getD, List.getElem?_eq_none (by simpa using h)]; rfl
theorem mxL_zero (m s : List Nat) {i : Nat} (h : i < 16) : mxL m s i 0 = bl (fun j => mixA m s j 4) (fun i => z16.getD i 0) i 16 := by
  unfold mxL
  have e : (bl (fun j => mixA m s j 4) (fun i => z16.getD i 0) i 16).getD i 0 = 0 := by rw [bl_old _ _ (Nat.le_refl i) h]; exact z16_at i
  apply List.ext_getElem?
  intro j
  by_cases hj : i = j
  · subst hj
    rw [List.getElem?_set_self (by rw [bl_len]; exact h)]
    rw [List.getD_eq_getElem?_getD] at e
    rw [List.getElem?_eq_getElem (by rw [bl_len]; exact h)] at e ⊢
    exact congrArg some (show (0 : Nat) = _ from e.symm)
  · rw [List.getElem?_set_ne hj]
theorem mxL_four (m s : List Nat) (i : Nat) : mxL m s i 4 = bl (fun j => mixA m s j 4) (fun i => z16.getD i 0) (i + 1) 16 := bl_set _ _
theorem mxL_step (m s : List Nat) (i k v : Nat) (h : v = mixA m s i (k + 1)) : (mxL m s i k).set i v = mxL m s i (k + 1) := by unfold mxL; rw [List.set_set, h]
theorem mxL_len (m s : List Nat) (i k : Nat) : (mxL m s i k).length = 16 := by unfold mxL; rw [List.length_set, bl_len]
theorem mxL_at (m s : List Nat) {i : Nat} (k : Nat) (h : i < 16) : (mxL m s i k).getD i 0 = mixA m s i k := by
  unfold mxL
  rw [List.getD_eq_getElem?_getD, List.getElem?_set_self (by rw [bl_len]; exact h)]; rfl
def MX (w wr : World) (m a L : List Nat) : Prop := Blk wr w.heap.size 54 (b8 a) ∧ Blk wr (w.heap.size + 1) 49 (b8 m) ∧ Blk wr (w.heap.size + 2) 54 (b8 z16) ∧ Blk wr (w.heap.size + 3) 54 (b8 L) ∧ Below w.heap.size w wr
theorem MX.below {w wr wx : World} {m a L : List Nat} (h : MX w wr m a L) (hb : Below wr.heap.size wr wx) : MX w wx m a L :=
  ⟨h.1.below hb h.1.lt, h.2.1.below hb h.2.1.lt, h.2.2.1.below hb h.2.2.1.lt, h.2.2.2.1.below hb h.2.2.2.1.lt, h.2.2.2.2.trans (hb.mono h.2.2.2.2.size)⟩
theorem MX.set {w wr : World} {m a L : List Nat} (h : MX w wr m a L) (i v : Nat) : MX w (wr.setCell ⟨w.heap.size + 3, i, none⟩ (.int .u8 (v : Nat))) m a (L.set i v) :=
  ⟨h.1.far (by omega) i _, h.2.1.far (by omega) i _, h.2.2.1.far (by omega) i _, h.2.2.2.1.b8set i v, below_set' h.2.2.2.2 _ i _ (by omega)⟩
set_option maxHeartbeats 8000000 in
theorem mix_ok (m a : List Nat) (lm : m.length = 4) (hm : By m) (la : a.length = 16) (ha : By a) (w : World) :
    Calls Tryd.prog 27 #[.agg (b8 a).toArray, .agg (b8 m).toArray] w fun e w' => e = .returned (.agg (b8 (mixF m a)).toArray) ∧ Below w.heap.size w w' := by
  have HA := Lib.hid (And.intro ha la)
  have HM := Lib.hid (And.intro hm lm)
  clear ha la hm lm
  go_enter Tryd.func27, Tryd.ntmps27
  go_upto_region 2 with fail
  refine wp_gen (fun wx => MX w wx m a (bl (fun j => mixA m a j 4) (fun i => z16.getD i 0) (4 * 0) 16)) ⟨(((Blk.new w _ (b8 a)).alloc _).alloc _).alloc _, ((Blk.new2 _ _ _ (b8 m)).alloc _).alloc _, (Blk.new3 _ _ _ _ (b8 z16)).alloc _, by rw [bl_zero, ml_eta (by rfl)]; exact Blk.new4 _ _ _ _ _ (b8 z16), below4 _ _ _ _ _⟩ ?_
  intro w1 H1
  have H2 := Lib.hid H1
  clear H1
  simp only [Nat.add_assoc, Nat.reduceAdd]
  go_wp2_with fail
  go_loopw [9] (fun v wr => ∃ c : Nat, v = .int .i64 c ∧ c ≤ 4 ∧ Hid (MX w wr m a (bl (fun j => mixA m a j 4) (fun i => z16.getD i 0) (4 * c) 16))) (fun v _ => 4 - (intOf v).toNat)
  case atStart => exact ⟨0, rfl, by omega, H2.out⟩
  case round =>
    obtain ⟨c, rfl, hc, hr⟩ := hrel
    clear H2
    rcases Nat.lt_or_ge c 4 with h | h
    · go_wp2_with fail
      rw [show decide ((c : Int) < 4) = true from decide_eq_true (by omega)]
      go_loopw [12] (fun v wr => ∃ r : Nat, v = .int .i64 r ∧ r ≤ 4 ∧ Hid (MX w wr m a (bl (fun j => mixA m a j 4) (fun i => z16.getD i 0) (4 * c + r) 16))) (fun v _ => 4 - (intOf v).toNat)
      case atStart => exact ⟨0, rfl, by omega, hr.out⟩
      case round =>
        obtain ⟨r, rfl, hrr, hq⟩ := hrel
        clear hr
        rcases Nat.lt_or_ge r 4 with h2 | h2
        · have hi16 : 4 * c + r < 16 := by omega
          go_wp2_with fail
          rw [show decide ((r : Int) < 4) = true from decide_eq_true (by omega)]
          go_loopw [15] (fun v wr => ∃ k : Nat, v = .int .i64 k ∧ k ≤ 4 ∧ Hid (MX w wr m a (mxL m a (4 * c + r) k))) (fun v _ => 4 - (intOf v).toNat)
          case atStart => exact ⟨0, rfl, by omega, by rw [mxL_zero _ _ hi16]; exact hq.out⟩
          case round =>
            obtain ⟨k, rfl, hk, hp⟩ := hrel
            clear hq
            rcases Nat.lt_or_ge k 4 with h3 | h3
            · have MO := hp.out
              have hA := mixA_lt m HA.out.1 (4 * c + r) k
              have hx := HA.out.1.get (4 * c + k)
              have hy := HM.out.1.get ((k + 4 - r) % 4)
              have hstep : mixA m a (4 * c + r) (k + 1) = mixA m a (4 * c + r) k ^^^ times (a.getD (4 * c + k) 0) (m.getD ((k + 4 - r) % 4) 0) := by
                show mixA m a (4 * c + r) k ^^^ times (a.getD (4 * ((4 * c + r) / 4) + k) 0) (m.getD ((k + 4 - (4 * c + r) % 4) % 4) 0) = _
                rw [show (4 * c + r) / 4 = c by omega, show (4 * c + r) % 4 = r by omega]
              have k1 : ∀ w', Below wr.drew.heap.size wr.drew w' → w'.cell? ⟨w.heap.size + 3, 4 * c + r, none⟩ = some (.int .u8 (mixA m a (4 * c + r) k : Nat)) := fun w' hw' => by
                have e := (MO.below ((below_drewN (Below.refl _ _) 1).trans hw')).2.2.2.1.b8cell (4 * c + r) (by rw [mxL_len]; exact hi16)
                rwa [mxL_at _ _ _ hi16] at e
              have k2 : ∀ w', Below wr.drew.heap.size wr.drew w' → w'.cell? ⟨w.heap.size, 4 * c + k, none⟩ = some (.int .u8 (a.getD (4 * c + k) 0 : Nat)) := fun w' hw' =>
                (MO.below ((below_drewN (Below.refl _ _) 1).trans hw')).1.b8cell (4 * c + k) (by rw [HA.out.2]; omega)
              have k3 : ∀ w', Below wr.drew.heap.size wr.drew w' → w'.cell? ⟨w.heap.size + 1, (k + 4 - r) % 4, none⟩ = some (.int .u8 (m.getD ((k + 4 - r) % 4) 0 : Nat)) := fun w' hw' =>
                (MO.below ((below_drewN (Below.refl _ _) 1).trans hw')).2.1.b8cell ((k + 4 - r) % 4) (by rw [HM.out.2]; omega)
              have hd : ((k : Int) - r + 4).tmod 4 = (((k + 4 - r) % 4 : Nat) : Int) := by rw [Int.tmod_eq_emod_of_nonneg (by omega)]; omega
              have hd4 : (k + 4 - r) % 4 < 4 := Nat.mod_lt _ (by decide)
              generalize (k + 4 - r) % 4 = d at *
              have HD := Lib.hid hd
              clear hd
              generalize a.getD (4 * c + k) 0 = x at *
              generalize m.getD d 0 = y at *
              have CT := fun w' => times_ok x y hx hy w'
              have ht := times_lt y hx
              have hxo := xor8 _ _ hA ht
              rw [← hstep] at hxo
              have HST := Lib.hid (And.intro hxo (mxL_step m a (4 * c + r) k _ rfl))
              have HCT := Lib.hid CT
              have HK := Lib.hid (And.intro k1 (And.intro k2 k3))
              have HMO := Lib.hid MO
              generalize mixA m a (4 * c + r) k = p at *
              generalize mixA m a (4 * c + r) (k + 1) = q at *
              generalize times x y = z at *
              clear MO k1 k2 k3 CT hxo hstep
              go_upto_region 11 with fail
              (refine wp_region_quiet_tail (C := fun w' => Below wr.drew.heap.size wr.drew w') 21 (by kernel_rfl) (by kernel_rfl) (Below.refl _ _) ?_; simp only [List.take_succ_cons, List.take_zero, List.drop_succ_cons, List.drop_zero])
              ((with_reducible refine wpQuiet_step (fun K hK => ?_)); refine quiet_plainG (.int .i64 c) (by first | rfl | simp [Region.wanted, yielded]) (fun w' hw' => by go_simp) ?_; go_simp; (with_reducible apply hK); clear hK K)
              ((with_reducible refine wpQuiet_step (fun K hK => ?_)); refine quiet_plainG (.int .i64 r) (by first | rfl | simp [Region.wanted, yielded]) (fun w' hw' => by go_simp) ?_; go_simp; (with_reducible apply hK); clear hK K)
              ((with_reducible refine wpQuiet_step (fun K hK => ?_)); refine quiet_plainG (.pointer (some ⟨w.heap.size + 3, c * 4, none⟩)) (by first | rfl | simp [Region.wanted, yielded]) (fun w' hw' => by go_simp) ?_; go_simp; (with_reducible apply hK); clear hK K)
              ((with_reducible refine wpQuiet_step (fun K hK => ?_)); refine quiet_plainG (.pointer (some ⟨w.heap.size + 3, 4 * c + r, none⟩)) (by first | rfl | simp [Region.wanted, yielded]) (fun w' hw' => by have ho : c * 4 + r = 4 * c + r := (by omega); go_simp) ?_; go_simp; (with_reducible apply hK); clear hK K)
              ((with_reducible refine wpQuiet_step (fun K hK => ?_)); refine quiet_plainG (.int .u8 p) (by first | rfl | simp [Region.wanted, yielded]) (fun w' hw' => by have e := HK.out.1 _ hw'; go_simp) ?_; go_simp; (with_reducible apply hK); clear hK K)
              ((with_reducible refine wpQuiet_step (fun K hK => ?_)); refine quiet_plainG (.int .i64 c) (by first | rfl | simp [Region.wanted, yielded]) (fun w' hw' => by go_simp) ?_; go_simp; (with_reducible apply hK); clear hK K)
              ((with_reducible refine wpQuiet_step (fun K hK => ?_)); refine quiet_plainG (.int .i64 k) (by first | rfl | simp [Region.wanted, yielded]) (fun w' hw' => by go_simp) ?_; go_simp; (with_reducible apply hK); clear hK K)
              ((with_reducible refine wpQuiet_step (fun K hK => ?_)); refine quiet_plainG (.pointer (some ⟨w.heap.size, c * 4, none⟩)) (by first | rfl | simp [Region.wanted, yielded]) (fun w' hw' => by go_simp) ?_; go_simp; (with_reducible apply hK); clear hK K)
              ((with_reducible refine wpQuiet_step (fun K hK => ?_)); refine quiet_plainG (.pointer (some ⟨w.heap.size, 4 * c + k, none⟩)) (by first | rfl | simp [Region.wanted, yielded]) (fun w' hw' => by have ho : c * 4 + k = 4 * c + k := (by omega); go_simp) ?_; go_simp; (with_reducible apply hK); clear hK K)
              ((with_reducible refine wpQuiet_step (fun K hK => ?_)); refine quiet_plainG (.int .u8 x) (by first | rfl | simp [Region.wanted, yielded]) (fun w' hw' => by have e := HK.out.2.1 _ hw'; go_simp) ?_; go_simp; (with_reducible apply hK); clear hK K)
              ((with_reducible refine wpQuiet_step (fun K hK => ?_)); refine quiet_plainG (.int .i64 k) (by first | rfl | simp [Region.wanted, yielded]) (fun w' hw' => by go_simp) ?_; go_simp; (with_reducible apply hK); clear hK K)
              ((with_reducible refine wpQuiet_step (fun K hK => ?_)); refine quiet_plainG (.int .i64 r) (by first | rfl | simp [Region.wanted, yielded]) (fun w' hw' => by go_simp) ?_; go_simp; (with_reducible apply hK); clear hK K)
              ((with_reducible refine wpQuiet_step (fun K hK => ?_)); refine quiet_plainG (.int .i64 ((k : Int) - r)) (by first | rfl | simp [Region.wanted, yielded]) (fun w' hw' => by go_simp; go_ints; try trivial) ?_; go_simp; (with_reducible apply hK); clear hK K)
              ((with_reducible refine wpQuiet_step (fun K hK => ?_)); refine quiet_plainG (.int .i64 ((k : Int) - r + 4)) (by first | rfl | simp [Region.wanted, yielded]) (fun w' hw' => by go_simp; go_ints; try trivial) ?_; go_simp; (with_reducible apply hK); clear hK K)
              ((with_reducible refine wpQuiet_step (fun K hK => ?_)); refine quiet_plainG (.int .i64 d) (by first | rfl | simp [Region.wanted, yielded]) (fun w' hw' => by have e := HD.out; go_simp; try simp [e]) ?_; go_simp; (with_reducible apply hK); clear hK K)
              ((with_reducible refine wpQuiet_step (fun K hK => ?_)); refine quiet_plainG (.pointer (some ⟨w.heap.size + 1, d, none⟩)) (by first | rfl | simp [Region.wanted, yielded]) (fun w' hw' => by go_simp; try (intro hh; omega)) ?_; go_simp; (with_reducible apply hK); clear hK K)
              ((with_reducible refine wpQuiet_step (fun K hK => ?_)); refine quiet_plainG (.int .u8 y) (by first | rfl | simp [Region.wanted, yielded]) (fun w' hw' => by have e := HK.out.2.2 _ hw'; go_simp) ?_; go_simp; (with_reducible apply hK); clear hK K)
              ((with_reducible refine wpQuiet_step (fun K hK => ?_)); refine quiet_callG (.int .u8 z) 36 #[.int .u8 x, .int .u8 y] (by first | rfl | simp [Region.wanted, yielded]) (fun w' => by go_simp) (fun w' hw' => (HCT.out w').mono (by rintro e w'' ⟨rfl, rfl⟩; exact ⟨rfl, hw'⟩)) ?_; go_simp; (with_reducible apply hK); clear hK K)
              ((with_reducible refine wpQuiet_step (fun K hK => ?_)); refine quiet_plainG (.int .u8 q) (by first | rfl | simp [Region.wanted, yielded]) (fun w' hw' => by have e := HST.out.1; go_simp) ?_; go_simp; (with_reducible apply hK); clear hK K)
              ((with_reducible refine wpQuiet_step (fun K hK => ?_)); refine quiet_plainG (.pointer (some ⟨w.heap.size + 3, c * 4, none⟩)) (by first | rfl | simp [Region.wanted, yielded]) (fun w' hw' => by go_simp) ?_; go_simp; (with_reducible apply hK); clear hK K)
              ((with_reducible refine wpQuiet_step (fun K hK => ?_)); refine quiet_plainG (.pointer (some ⟨w.heap.size + 3, 4 * c + r, none⟩)) (by first | rfl | simp [Region.wanted, yielded]) (fun w' hw' => by have ho : c * 4 + r = 4 * c + r := (by omega); go_simp) ?_; go_simp; (with_reducible apply hK); clear hK K)
              refine wpQuiet_nil ?_
              intro w5 hw5
              have M5 := (HMO.out.below ((below_drewN (Below.refl _ _) 1).trans hw5))
              have c5 := M5.2.2.2.1.b8cell (4 * c + r) (by rw [mxL_len]; exact hi16)
              have f5 := M5.2.2.2.1.free (4 * c + r)
              generalize (mxL m a (4 * c + r) k).getD (4 * c + r) 0 = z0 at *
              have M6 := M5.set (4 * c + r) q
              rw [HST.out.2] at M6
              have HM6 := Lib.hid M6
              clear M5 M6 hw5 HMO HST HK HCT
              go_wp2_with fail
              go_roundw
              case rel => exact ⟨k + 1, by go_num, by omega, HM6.out⟩
              case measure => simp [intOf]; omega
            · have h4 : k = 4 := by omega
              rw [h4, mxL_four] at hp
              clear h4
              go_wp2_with fail
              go_roundw
              case rel => exact ⟨r + 1, by go_num, by omega, hp.out⟩
              case measure => simp [intOf]; omega
        · have h4 : r = 4 := by omega
          rw [h4, show 4 * c + 4 = 4 * (c + 1) by omega] at hq
          clear h4
          go_wp2_with fail
          go_roundw
          case rel => exact ⟨c + 1, by go_num, by omega, hq.out⟩
          case measure => simp [intOf]; omega
    · have h4 : c = 4 := by omega
      rw [h4, show 4 * 4 = 16 by rfl, bl_full] at hr
      clear h4
      have LX : Hid ((b8 (mixF m a)).length = 16) := by rw [b8_len]; exact ml_len _ _
      go_wp2_with (first | refine load_blk hr.out.2.2.2.1 Tryd.underlying54 rfl state_size LX.out rfl rfl rfl ?_ | refine store_blk hr.out.2.2.1 state_size LX.out rfl (b8_one _) rfl rfl rfl rfl ?_)
      exact ret_blk rfl (Blk.setRow hr.out.2.2.1 _) Tryd.underlying54 rfl state_size LX.out rfl rfl ⟨rfl, below_row hr.out.2.2.2.2 _ _ (by omega)⟩
end Go.Proofs.YteleedcpepifjaaDoor
