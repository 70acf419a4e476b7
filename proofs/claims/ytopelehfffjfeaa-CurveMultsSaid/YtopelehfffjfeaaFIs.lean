/-
Field's laws: is a number the document's?
-/
import Derived.Test.YtopelehfffjfeaaRef05all
import Derived.Test.YtopelehfffjfeaaFRoot
import Derived.Test.YtopelehfffjfeaaCut
namespace Go.Proofs.Ytopelehfffjfeaa
open Go.RowKit

theorem bvals_get (l : List UInt8) (i : Nat) (h : i < l.length) : (bvals l)[i]? = some (.int .u8 ((l.getD i 0).toNat : Nat)) := by
  simp [bvals, h]
theorem u8_ofN (m : Nat) : (UInt8.ofNat (m % 256)).toNat = m % 256 := by simp
theorem le8_leBytes (N n : Nat) : le8 (leBytes N n) = N % 256 ^ n := by
  induction n with
  | zero => simp [leBytes, le8, Nat.mod_one]
  | succ n ih =>
    rw [leBytes_succ, le8_append, ih, leBytes_length]
    simp only [le8, u8_ofN, Nat.mul_zero, Nat.add_zero]
    rw [Nat.pow_succ, Nat.mod_mul]
/-- a block of bytes, whole, as a string -/
theorem conv_blk {P : Program} {w : World} {src e dst : TypeId} {b n : Nat} {t : TypeId} {bs : List UInt8} (hs : P.underlying src = some (.slice e)) (he : P.underlying e = some (.int .u8)) (hd : P.underlying dst = some .string)
    (hn : bs.length = n) (h : Blk w b t (bvals bs)) : (convert src dst (.slice (some ⟨b, 0, none⟩) n n)).run P w = .ok (.string ⟨bs.toArray⟩) w := by
  have := run_convert_bytes_arg (P := P) w src e hs he b 0 n n (bs.map fun b => (b.toNat : Int)) (by simpa using hn) (fun i hi => ?_) dst hd
  · rw [this]
    have e1 : strOfNums (bs.map fun b => (b.toNat : Int)) = ⟨bs.toArray⟩ := by
      unfold strOfNums
      congr 2
      rw [List.map_map]
      conv => rhs; rw [← List.map_id bs]
      apply List.map_congr_left
      intro b _
      simp
    rw [e1]
  · have hi' : i < bs.length := by omega
    rw [Nat.zero_add, Blk.cell h i _ (bvals_get bs i hi')]
    simp [List.getElem?_eq_getElem hi', List.getD_eq_getElem?_getD]

theorem leBytes_inj : ∀ {n x y : Nat}, x < 256 ^ n → y < 256 ^ n → leBytes x n = leBytes y n → x = y := by
  intro n x y hx hy h
  have h1 := congrArg le8 h
  rwa [le8_leBytes, le8_leBytes, Nat.mod_eq_of_lt hx, Nat.mod_eq_of_lt hy] at h1
set_option maxHeartbeats 1000000 in
set_option maxRecDepth 100000 in
theorem is_ok (l : List Nat) (vx : Value) (x y : Nat) (w : World) (hl : Lm l x) (hn : Num w vx y) (hy : y < pP) :
    Calls Try.prog 17 #[ev l, vx] w fun e w' => e = .returned (.bool (decide (x = y))) ∧ Below w.heap.size w w' := by
  have HX : Hid (lv l % pP = x) := hl.val
  have HL := Lib.hid hl.len
  have HS := Lib.hid hl.small
  have HN := Lib.hid hn
  have LY := Lib.hid (lim_of hy)
  have EQ : Hid (leBytes x 32 = leBytes y 32 ↔ x = y) := by
    refine ⟨fun h1 => ?_, fun h => by rw [h]⟩
    exact leBytes_inj (n := 32) (Nat.lt_trans hl.lt (by decide)) (Nat.lt_trans hy (by decide)) h1
  have LB : Hid ((leBytes x 32).length = 32) := by show _ = _; simp [leBytes]
  have LB2 : Hid ((leBytes y 32).length = 32) := by show _ = _; simp [leBytes]
  clear hl hn hy
  obtain ⟨f, hf⟩ : ∃ f, f = decide (x = y) := ⟨_, rfl⟩
  have HF : Hid ((leBytes x 32 == leBytes y 32) = f) := by
    show _ = _
    rw [hf]
    by_cases h : x = y
    · rw [decide_eq_true h, EQ.out.2 h, beq_self_eq_true]
    · rw [decide_eq_false h]; exact beq_eq_false_iff_ne.2 fun e => h (EQ.out.1 e)
  rw [← hf]
  clear hf EQ
  show Calls _ _ #[.agg (uvals l).toArray, vx] _ _
  go_enter Try.func17, Try.ntmps17
  go_upto_region 1 with fail
  refine wp_gen (fun w0 => Hid (Blk w0 w.heap.size 29 (uvals l)) ∧ Below w.heap.size w w0) ⟨Blk.new w _ (uvals l), (Below.refl _ _).alloc (Nat.le_refl _) _⟩ ?_
  rintro w0 ⟨P0, BB⟩
  go_wp2_with (refine load_el P0 HL rfl rfl rfl ?_)
  refine (el_bytes_ok l w0 HL.out HS.out).mono ?_
  rintro e w1 ⟨rfl, b1⟩
  rw [HX.out]
  have BB1 := BB.trans (b1.mono BB.size)
  unfold ag
  generalize leBytes x 32 = X at *
  obtain ⟨Y, hY⟩ : ∃ Y, Y = leBytes y 32 := ⟨_, rfl⟩
  have HY := Lib.hid hY.symm
  rw [← hY] at HF
  clear hY
  have cvt := fun (w' : World) (c : Nat) (h : Blk w' c 55 (bvals X)) => conv_blk (P := Try.prog) (src := 35) (dst := 9) Try.underlying35 Try.underlying5 Try.underlying9 LB.out h
  have one : ∀ v ∈ bvals X, v.oneCell' = true := by
    intro v hv
    obtain ⟨d, _, rfl⟩ := List.mem_map.1 hv
    rfl
  have XL : (bvals X).length = 32 := by rw [← LB.out]; simp [bvals]
  have NW : Hid (Blk (w1.alloc (.cells (List.replicate 32 (.int .u8 0)).toArray 55)) w1.heap.size 55 (List.replicate 32 (.int .u8 0))) := Blk.new w1 _ _
  have ONE := Lib.hid one
  have XLH := Lib.hid XL
  clear one XL
  go_upto_region 2 with (refine store_blk (b := w1.heap.size) (n := 32) (cs := bvals X) (old := List.replicate 32 (.int .u8 0)) (t := 55) NW.out arr32_size XLH.out rfl ONE.out rfl rfl rfl rfl ?_)
  refine wp_gen (fun w2 => Hid (Blk w2.drew w1.heap.size 55 (bvals X)) ∧ Hid (Num w2.drew vx y) ∧ Below w.heap.size w w2.drew) ⟨NW.out.setRow _, (HN.out.below (below_drewN (below_row (BB1.alloc BB1.size _) _ _ BB1.size) 1)), below_drewN (below_row (BB1.alloc BB1.size _) _ _ BB1.size) 1⟩ ?_
  rintro w2 ⟨P1, N1, BB2⟩
  generalize w1.heap.size = c at *
  clear P0 BB b1 BB1 NW
  refine region_quiet (C := fun w' => Below w2.drew.heap.size w2.drew w') (by kernel_rfl) (by kernel_rfl) (Below.refl _ _) ?_
  ((with_reducible refine wpQuiet_step (fun K hK => ?_)); refine quiet_plainG (.slice (some ⟨c, 0, none⟩) 32 32) (by first | rfl | simp [Region.wanted, yielded]) (fun w' hw' => by go_simp) ?_; go_simp; (with_reducible apply hK); clear hK K)
  ((with_reducible refine wpQuiet_step (fun K hK => ?_)); refine quiet_plainG (.string ⟨X.toArray⟩) (by first | rfl | simp [Region.wanted, yielded]) (fun w' hw' => by have h := cvt w' c (P1.out.below hw' P1.out.lt); go_simp; try simp [h]) ?_; go_simp; (with_reducible apply hK); clear hK K)
  ((with_reducible refine wpQuiet_step (fun K hK => ?_)); refine quiet_plainG (vx) (by first | rfl | simp [Region.wanted, yielded]) (fun w' hw' => by go_simp) ?_; go_simp; (with_reducible apply hK); clear hK K)
  ((with_reducible refine wpQuiet_step (fun K hK => ?_)); refine quiet_callG (.string ⟨Y.toArray⟩) 46 #[vx] (by first | rfl | simp [Region.wanted, yielded]) (fun w' => by go_simp) (fun w' hw' => (refBytes_ok vx y w' (N1.out.below hw') LY.out).mono (by rintro e w'' ⟨rfl, hb⟩; exact ⟨by rw [HY.out], hw'.trans (hb.mono hw'.size)⟩)) ?_; go_simp; (with_reducible apply hK); clear hK K)
  ((with_reducible refine wpQuiet_step (fun K hK => ?_)); refine quiet_plainG (.bool f) (by first | rfl | simp [Region.wanted, yielded]) (fun w' hw' => by have h := HF.out; go_simp; try simp [h]) ?_; go_simp; (with_reducible apply hK); clear hK K)
  ((with_reducible refine wpQuiet_step (fun K hK => ?_)); refine quiet_plainG (.bool f) (by first | rfl | simp [Region.wanted, yielded]) (fun w' hw' => by go_simp) ?_; go_simp; (with_reducible apply hK); clear hK K)
  refine wpQuiet_nil ?_
  intro w5 hw5
  go_wp2_with fail
  go_ret
  exact ⟨rfl, BB2.trans (Below.mono hw5 BB2.size)⟩
end Go.Proofs.Ytopelehfffjfeaa
