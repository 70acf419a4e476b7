/-
The contracts of scalar's functions: MulAdd.
Arrays of 32 bytes: when they are equal.
The fixed fact of scalar's laws.
What scalar's laws call beside: the document's Reduce of any string; Cut.
ScalarReduces answers true.
ScalarMulAdds answers true.
ScalarRing answers true.
The contracts of scalar's functions: Bits.
-/
import Derived.ChangeKeysEq
import Derived.Test.YtkhdhiddhnmdkaaGreatDoorPk27
import Derived.Test.YtkhdhiddhnmdkaaGreatDoorPk16
import Derived.Test.YtkhdhiddhnmdkaaGreatDoorPk01
namespace Go.Proofs.YtkhdhiddhnmdkaaGreatDoor
open Go.RowKit

def uvalsS (l : List Nat) : List Value := l.map fun d => Value.int .u64 (d : Nat)
theorem uvalsS_get (l : List Nat) (i : Nat) (h : i < l.length) : (uvalsS l)[i]? = some (.int .u64 (l.getD i 0 : Nat)) := by
  simp [uvalsS, h]
theorem uvalsS_set (l : List Nat) (i d : Nat) : uvalsS (l.set i d) = (uvalsS l).set i (.int .u64 (d : Nat)) := by simp [uvalsS, List.map_set]
theorem words_set16 (l : List UInt8) (i : Nat) (h : i < 16) : (words l i ++ List.replicate (16 - i) 0).set i (word4 l i) = words l (i + 1) ++ List.replicate (16 - (i + 1)) 0 := by
  rw [words_succ, show 16 - i = (16 - (i + 1)) + 1 from by omega, List.replicate_succ, List.set_append_right _ _ (by rw [words_length]; omega)]
  simp [words_length]
theorem words16_ok (l : List UInt8) (n k : Nat) : Wd (words l n ++ List.replicate k 0) := fun d h => by
  rcases List.mem_append.1 h with h | h
  · exact words_ok l n d h
  · rw [(List.mem_replicate.1 h).2]; decide

theorem wu64 (n : Nat) (h : n < 18446744073709551616) : IntKind.u64.wrap (n : Int) = n := by
  show (n : Int) % 18446744073709551616 = n
  omega
theorem u64_mask (r : Nat) (h : r < 18446744073709551616) : bits .and .u64 (r : Int) 4294967295 = ((r % 4294967296 : Nat) : Int) := by
  have e := u64_and_nat r 4294967295 h (by decide)
  rw [show (4294967295 : Nat) = 2 ^ 32 - 1 from rfl, Nat.and_two_pow_sub_one_eq_mod] at e
  exact e
def zero32 : List Value := List.replicate 32 (.int .u8 0)
/-- the blocks of a product under way -/
def MA (w : World) (B : Nat) (la lb lc : List UInt8) (out : List Nat) : Prop :=
  Blk w B 48 (bvals la) ∧ Blk w (B + 1) 48 (bvals lb) ∧ Blk w (B + 2) 48 (bvals lc) ∧ Blk w (B + 3) 48 zero32 ∧ Blk w (B + 4) 126 (uvalsS out)
theorem MA.below {w w' : World} {B : Nat} {la lb lc : List UInt8} {out : List Nat} (h : MA w B la lb lc out) (hb : Below w.heap.size w w') : MA w' B la lb lc out :=
  ⟨h.1.below hb h.1.lt, h.2.1.below hb h.2.1.lt, h.2.2.1.below hb h.2.2.1.lt, h.2.2.2.1.below hb h.2.2.2.1.lt, h.2.2.2.2.below hb h.2.2.2.2.lt⟩
theorem MA.set {w : World} {B : Nat} {la lb lc : List UInt8} {out : List Nat} (h : MA w B la lb lc out) (i d : Nat) : MA (w.setCell ⟨B + 4, i, none⟩ (.int .u64 (d : Nat))) B la lb lc (out.set i d) :=
  ⟨h.1.far (by omega) _ _, h.2.1.far (by omega) _ _, h.2.2.1.far (by omega) _ _, h.2.2.2.1.far (by omega) _ _, by rw [uvalsS_set]; exact h.2.2.2.2.set _ _⟩
theorem MA.cell {w : World} {B : Nat} {la lb lc : List UInt8} {out : List Nat} (h : MA w B la lb lc out) (i : Nat) (hi : i < out.length) : w.cell? ⟨B + 4, i, none⟩ = some (.int .u64 (out.getD i 0 : Nat)) := h.2.2.2.2.cell i _ (uvalsS_get _ i hi)
theorem MA.free {w : World} {B : Nat} {la lb lc : List UInt8} {out : List Nat} (h : MA w B la lb lc out) (i : Nat) : w.frozen? ⟨B + 4, i, none⟩ = false := h.2.2.2.2.free i
theorem MA.start (w : World) (la lb lc : List UInt8) : MA (((((w.alloc (.cells (bvals la).toArray 48)).alloc (.cells (bvals lb).toArray 48)).alloc (.cells (bvals lc).toArray 48)).alloc (.cells zero32.toArray 48)).alloc (.cells (uvalsS (List.replicate 16 0)).toArray 126)) w.heap.size la lb lc (List.replicate 16 0) := by
  have s1 : ∀ (w : World) (o : Obj), (w.alloc o).heap.size = w.heap.size + 1 := fun w o => by simp
  have n : ∀ (w : World) (t : TypeId) (cs : List Value) (k : Nat), k = w.heap.size → Blk (w.alloc (.cells cs.toArray t)) k t cs := fun w t cs k hk => by subst hk; exact Blk.new w t cs
  refine ⟨?_, ?_, ?_, ?_, ?_⟩
  · exact ((((n _ _ _ _ rfl).alloc _).alloc _).alloc _).alloc _
  · exact (((n _ _ _ _ (by rw [s1])).alloc _).alloc _).alloc _
  · exact ((n _ _ _ _ (by rw [s1, s1])).alloc _).alloc _
  · exact (n _ _ _ _ (by rw [s1, s1, s1])).alloc _
  · exact n _ _ _ _ (by rw [s1, s1, s1, s1])
theorem below5 (w : World) (a b c d e : Obj) : Below w.heap.size w (((((w.alloc a).alloc b).alloc c).alloc d).alloc e) :=
  (((((Below.refl _ _).alloc (Nat.le_refl _) _).alloc (by simp) _).alloc (by simp; omega) _).alloc (by simp; omega) _).alloc (by simp; omega) _

/-- a row of 64 bytes, filled as far as i -/
def part64 (N i : Nat) : List Value := bvals (leBytes N i ++ List.replicate (64 - i) 0)
theorem part64_zero (N : Nat) : part64 N 0 = List.replicate 64 (.int .u8 0) := by simp [part64, leBytes, bvals]
theorem part64_end (N : Nat) : part64 N 64 = bvals (leBytes N 64) := by simp [part64]
theorem part64_set (N i : Nat) (h : i < 64) : (part64 N i).set i (.int .u8 ((N / 256 ^ i % 256 : Nat) : Nat)) = part64 N (i + 1) := by
  unfold part64
  rw [leBytes_succ, show 64 - i = (64 - (i + 1)) + 1 from by omega, List.replicate_succ]
  simp only [bvals, List.map_append, List.map_cons, List.append_assoc, List.cons_append, List.nil_append]
  rw [List.set_append_right _ _ (by simp [leBytes])]
  simp [leBytes]
theorem part64_get (N i : Nat) (h : i < 64) : (part64 N i)[i]? = some (.int .u8 0) := by
  unfold part64 bvals
  rw [show 64 - i = (64 - (i + 1)) + 1 from by omega, List.replicate_succ, List.map_append, List.getElem?_append_right (by simp [leBytes])]
  simp [leBytes]
theorem MA.far {w : World} {B b : Nat} {la lb lc : List UInt8} {out : List Nat} (h : MA w B la lb lc out) (hb : B + 4 < b) (i : Nat) (v : Value) : MA (w.setCell ⟨b, i, none⟩ v) B la lb lc out :=
  ⟨h.1.far (by omega) _ _, h.2.1.far (by omega) _ _, h.2.2.1.far (by omega) _ _, h.2.2.2.1.far (by omega) _ _, h.2.2.2.2.far (by omega) _ _⟩
theorem cut_val {N : Nat} (h : N < 4294967296 ^ 16) : le8 (cut64 ⟨(leBytes N 64).toArray⟩).data.toList = N := by
  have hs : (⟨(leBytes N 64).toArray⟩ : ByteArray).size = 64 := by show (leBytes N 64).toArray.size = 64; simp [leBytes_length]
  unfold cut64
  rw [if_pos (by omega)]
  show le8 (leBytes N 64) = N
  rw [le8_leBytes, show 64 = 4 * 16 from rfl, wpow, Nat.mod_eq_of_lt h]
theorem mul_pow16 {a b c : Nat} (ha : a < 4294967296 ^ 8) (hb : b < 4294967296 ^ 8) (hc : c < 4294967296 ^ 8) : c + a * b < 4294967296 ^ 16 := by
  have h : a * b ≤ (4294967296 ^ 8 - 1) * (4294967296 ^ 8 - 1) := Nat.mul_le_mul (by omega) (by omega)
  have e : (4294967296 ^ 8 - 1) * (4294967296 ^ 8 - 1) + 4294967296 ^ 8 ≤ 4294967296 ^ 16 := by decide +kernel
  omega

set_option maxHeartbeats 8000000 in
set_option maxRecDepth 100000 in
theorem mulAdd_ok (la lb lc : List UInt8) (w : World) (ha : la.length = 32) (hb : lb.length = 32) (hc : lc.length = 32) (ho : Ordr w) (h0 : 6 < w.heap.size) :
    Calls Tryz.prog 45 #[ag la, ag lb, ag lc] w fun e w' => e = .returned (ag (leBytes ((le8 la * le8 lb + le8 lc) % Lq) 32)) ∧ Below w.heap.size w w' := by
  have HO := Lib.hid ho
  have BA : Hid ((Tryz.prog.info? 48).map (·.size) = some (bvals la).length) := by rw [show (bvals la).length = 32 by simp [bvals, ha]]; exact b32_size
  have BB : Hid ((Tryz.prog.info? 48).map (·.size) = some (bvals lb).length) := by rw [show (bvals lb).length = 32 by simp [bvals, hb]]; exact b32_size
  have BC : Hid ((Tryz.prog.info? 48).map (·.size) = some (bvals lc).length) := by rw [show (bvals lc).length = 32 by simp [bvals, hc]]; exact b32_size
  clear ho
  show Calls Tryz.prog _ #[.agg (bvals la).toArray, .agg (bvals lb).toArray, .agg (bvals lc).toArray] w _
  go_enter Tryz.func45, Tryz.ntmps45
  go_wp2
  go_loopw [17] (fun vi wr => ∃ (i : Nat), vi = .int .i64 i ∧ i ≤ 8 ∧ Hid (MA wr w.heap.size la lb lc (words lc i ++ List.replicate (16 - i) 0)) ∧ Below w.heap.size w wr) (fun vi _ => 8 - (intOf vi).toNat)
  case atStart => exact ⟨0, rfl, by omega, MA.start w la lb lc, below5 _ _ _ _ _ _⟩
  case round =>
    obtain ⟨i, rfl, hi, km, hBw⟩ := hrel
    by_cases hgo : i < 8
    · go_wp2_with (refine load_blkS km.out.2.2.1 Tryz.underlying48 BC.out rfl rfl rfl ?_)
      refine (word_ok lc i _ hc hgo).mono ?_
      rintro e w1 ⟨rfl, hb1⟩
      have km' := Lib.hid (km.out.below hb1)
      have hB1 := hBw.trans (hb1.mono hBw.size)
      clear hb1 km
      have k1 := km'.out.cell i (by simp [words_length]; omega)
      have k2 := km'.out.free i
      have KS := Lib.hid (words_set16 lc i (by omega) ▸ km'.out.set i (word4 lc i))
      have hB2 := below_set' hB1 (w.heap.size + 4) i (.int .u64 (word4 lc i : Nat)) (by omega)
      generalize (words lc i ++ List.replicate (16 - i) 0).getD i 0 = old at *
      go_wp2
      go_roundw
      case rel => exact ⟨i + 1, by go_num, by omega, KS, hB2⟩
      case measure => simp [intOf]; omega
    · have hi8 : i = 8 := by omega
      subst hi8
      have hst : Hid (∃ lo, MA wr w.heap.size la lb lc lo ∧ Wd lo ∧ lo.length = 16 ∧ wv lo = le8 lc + wv ((words la 8).take 0) * wv (words lb 8)) := by
        refine ⟨_, km.out, words16_ok _ _ _, by simp [words_length], ?_⟩
        rw [wv_append, wv_words lc 8 (by omega), List.take_of_length_le (by omega)]
        have hz : wv (List.replicate (16 - 8) 0) = 0 := by decide
        rw [hz]; simp
      clear km
      go_wp2
      rw [show (((8 : Nat)) : Int) = 8 from rfl]
      go_loopw [26] (fun vi wr => ∃ (i : Nat), vi = .int .i64 i ∧ i ≤ 8 ∧ Hid (∃ lo, MA wr w.heap.size la lb lc lo ∧ Wd lo ∧ lo.length = 16 ∧ wv lo = le8 lc + wv ((words la 8).take i) * wv (words lb 8)) ∧ Below w.heap.size w wr) (fun vi _ => 8 - (intOf vi).toNat)
      case atStart => exact ⟨0, rfl, by omega, hst, hBw⟩
      case round =>
        clear hst hBw hi hgo
        obtain ⟨i, rfl, hi, hst, hBw⟩ := hrel
        by_cases hgo : i < 8
        · obtain ⟨lo, km, hw, hl, he⟩ := hst.out
          have hin : Hid (∃ lo, MA wr w.heap.size la lb lc lo ∧ Wd lo ∧ lo.length = 16 ∧ wv lo + 0 * 4294967296 ^ (i + 0) = (le8 lc + wv ((words la 8).take i) * wv (words lb 8)) + 4294967296 ^ i * (word4 la i * wv ((words lb 8).take 0))) := ⟨lo, km, hw, hl, by rw [he]; simp⟩
          clear hst km hw hl he
          go_wp2
          rw [show decide ((i : Int) < 8) = true from decide_eq_true (by omega)]
          go_loopw [10, 29] (fun vc vk wr => ∃ (k c : Nat), vk = .int .i64 k ∧ vc = .int .u64 c ∧ c < 4294967296 ∧ k ≤ 8 ∧ Hid (∃ lo, MA wr w.heap.size la lb lc lo ∧ Wd lo ∧ lo.length = 16 ∧ wv lo + c * 4294967296 ^ (i + k) = (le8 lc + wv ((words la 8).take i) * wv (words lb 8)) + 4294967296 ^ i * (word4 la i * wv ((words lb 8).take k))) ∧ Below w.heap.size w wr) (fun _ vk _ => 8 - (intOf vk).toNat)
          case atStart => exact ⟨0, 0, rfl, rfl, by omega, by omega, hin, hBw⟩
          case round =>
            clear hin hBw
            obtain ⟨k, c, rfl, rfl, hc4, hk, hin, hBw⟩ := hrel
            by_cases hgk : k < 8
            · obtain ⟨lo, km0, hw, hl, he0⟩ := hin.out
              have km := Lib.hid km0
              have he := Lib.hid he0
              clear hin km0 he0
              have hd := hw.getD (i + k)
              have k1 : ∀ w' : World, Below wr.drew.heap.size wr.drew w' → w'.cell? ⟨w.heap.size + 4, i + k, none⟩ = some (.int .u64 (lo.getD (i + k) 0 : Nat)) := fun w' hw' => (MA.below (w := wr.drew) km.out hw').cell (i + k) (by omega)
              have hx := word4_lt la i
              have hy := word4_lt lb k
              have hWX := word_ok la i
              have hWY := word_ok lb k
              have NXT := Lib.hid (wmul_inner (by omega) he.out rfl (y := word4 lb k))
              have PP := Lib.hid (wv_take_next (words lb 8) k)
              rw [words_getD lb 8 k hgk] at PP
              generalize word4 la i = x at *
              generalize word4 lb k = y at *
              generalize lo.getD (i + k) 0 = d at *
              have hxy : x * y ≤ 18446744065119617025 := Nat.mul_le_mul (show x ≤ 4294967295 by omega) (show y ≤ 4294967295 by omega)
              obtain ⟨p, hp⟩ : ∃ p, x * y = p := ⟨_, rfl⟩
              obtain ⟨q, hq⟩ : ∃ q, d + p = q := ⟨_, rfl⟩
              obtain ⟨r, hr⟩ : ∃ r, q + c = r := ⟨_, rfl⟩
              have hm : IntKind.u64.wrap ((x : Int) * y) = (p : Nat) := by rw [← Int.natCast_mul, hp]; exact wu64 p (by omega)
              have ha1 : IntKind.u64.wrap ((d : Int) + p) = (q : Nat) := by rw [← Int.natCast_add, hq]; exact wu64 q (by omega)
              have ha2 : IntKind.u64.wrap ((q : Int) + c) = (r : Nat) := by rw [← Int.natCast_add, hr]; exact wu64 r (by omega)
              rw [show d + x * y + c = r from by omega] at NXT
              have hr64 : r < 18446744073709551616 := by omega
              clear hp hq hr hxy
              have hik : (i : Int) + k < 16 := by omega
              go_wp2
              refine region_quiet (C := fun w' => Below wr.drew.heap.size wr.drew w') (by kernel_rfl) (by kernel_rfl) (Below.refl _ _) ?_
              refine wpQuiet_step (fun K hK => ?_)
              refine quiet_plainK (.int .i64 i) rfl (fun w' hw' => by go_simp) ?_
              go_simp
              refine hK _ ?_
              clear hK K
              refine wpQuiet_step (fun K hK => ?_)
              refine quiet_plainK (.int .i64 k) rfl (fun w' hw' => by go_simp) ?_
              go_simp
              refine hK _ ?_
              clear hK K
              refine wpQuiet_step (fun K hK => ?_)
              refine quiet_plainK (.int .i64 (i + k : Int)) rfl (fun w' hw' => by go_simp; try go_ints; try trivial) ?_
              go_simp
              refine hK _ ?_
              clear hK K
              refine wpQuiet_step (fun K hK => ?_)
              refine quiet_plainK (.pointer (some ⟨w.heap.size + 4, i + k, none⟩)) rfl (fun w' hw' => by go_simp; rw [if_pos (by omega), show ((i : Int) + k).toNat = i + k from by omega]) ?_
              go_simp
              refine hK _ ?_
              clear hK K
              refine wpQuiet_step (fun K hK => ?_)
              refine quiet_plainK (.int .u64 d) rfl (fun w' hw' => by have h := k1 w' hw'; go_simp; try simp [h]) ?_
              go_simp
              refine hK _ ?_
              clear hK K
              refine wpQuiet_step (fun K hK => ?_)
              refine quiet_loadK (fun w' hw' => (MA.below (w := wr.drew) km.out hw').1) Tryz.underlying48 BA.out rfl rfl (by go_simp) ?_
              go_simp
              refine hK _ ?_
              clear hK K
              refine wpQuiet_step (fun K hK => ?_)
              refine quiet_plainK (.int .i64 i) rfl (fun w' hw' => by go_simp) ?_
              go_simp
              refine hK _ ?_
              clear hK K
              refine wpQuiet_step (fun K hK => ?_)
              refine quiet_callK (.int .u64 x) 76 #[.agg (bvals la).toArray, .int .i64 i] rfl (fun w' => by go_simp) (fun w' hw' => (hWX w' ha hgo).mono (by
                rintro e w'' ⟨rfl, hb⟩
                exact ⟨rfl, hw'.trans (hb.mono hw'.size)⟩)) ?_
              go_simp
              refine hK _ ?_
              clear hK K
              refine wpQuiet_step (fun K hK => ?_)
              refine quiet_loadK (fun w' hw' => (MA.below (w := wr.drew) km.out hw').2.1) Tryz.underlying48 BB.out rfl rfl (by go_simp) ?_
              go_simp
              refine hK _ ?_
              clear hK K
              refine wpQuiet_step (fun K hK => ?_)
              refine quiet_plainK (.int .i64 k) rfl (fun w' hw' => by go_simp) ?_
              go_simp
              refine hK _ ?_
              clear hK K
              refine wpQuiet_step (fun K hK => ?_)
              refine quiet_callK (.int .u64 y) 76 #[.agg (bvals lb).toArray, .int .i64 k] rfl (fun w' => by go_simp) (fun w' hw' => (hWY w' hb hgk).mono (by
                rintro e w'' ⟨rfl, hb⟩
                exact ⟨rfl, hw'.trans (hb.mono hw'.size)⟩)) ?_
              go_simp
              refine hK _ ?_
              clear hK K
              refine wpQuiet_step (fun K hK => ?_)
              refine quiet_plainK (.int .u64 (p : Nat)) rfl (fun w' hw' => by go_simp; try exact hm) ?_
              go_simp
              refine hK _ ?_
              clear hK K
              refine wpQuiet_step (fun K hK => ?_)
              refine quiet_plainK (.int .u64 (q : Nat)) rfl (fun w' hw' => by go_simp; try exact ha1) ?_
              go_simp
              refine hK _ ?_
              clear hK K
              refine wpQuiet_step (fun K hK => ?_)
              refine quiet_plainK (.int .u64 c) rfl (fun w' hw' => by go_simp) ?_
              go_simp
              refine hK _ ?_
              clear hK K
              refine wpQuiet_step (fun K hK => ?_)
              refine quiet_plainK (.int .u64 (r : Nat)) rfl (fun w' hw' => by go_simp; try exact ha2) ?_
              go_simp
              refine hK _ ?_
              clear hK K
              refine wpQuiet_step (fun K hK => ?_)
              refine quiet_plainK (.int .u64 (r : Nat)) rfl (fun w' hw' => by go_simp) ?_
              go_simp
              refine hK _ ?_
              clear hK K
              refine wpQuiet_nil ?_
              intro w1 hw1
              have km1 := Lib.hid (MA.below (w := wr.drew) km.out hw1)
              have hBx := (below_drewN hBw 1).trans (Below.mono hw1 (show w.heap.size ≤ wr.drew.heap.size from hBw.size))
              have c1 := k1 w1 hw1
              have f1 := km1.out.free (i + k)
              have NM := Lib.hid (km1.out.set (i + k) (r % 4294967296))
              have hBy := below_set' hBx (w.heap.size + 4) (i + k) (.int .u64 ((r % 4294967296 : Nat) : Nat)) (by omega)
              have hw2 := hw.set (i + k) (r % 4294967296) (by omega)
              have hl2 : (lo.set (i + k) (r % 4294967296)).length = 16 := by rw [List.length_set]; exact hl
              have hmask := u64_mask r hr64
              have NX2 := NXT.out
              rw [← PP.out] at NX2
              have NXT2 := Lib.hid NX2
              clear NX2 NXT PP k1 hw1 hm ha1 ha2 km he hw hBw
              go_wp2
              go_roundw
              case rel => exact ⟨k + 1, r / 4294967296, by go_num, val_int (by omega), by omega, by omega, ⟨_, NM.out, hw2, hl2, NXT2.out⟩, hBy⟩
              case measure => simp [intOf]; omega
            · have hk8 : k = 8 := by omega
              subst hk8
              have hin2 : Hid (∃ lo, MA wr w.heap.size la lb lc lo ∧ Wd lo ∧ lo.length = 16 ∧ wv lo + c * 4294967296 ^ (i + 8) = le8 lc + wv ((words la 8).take (i + 1)) * wv (words lb 8)) := by
                obtain ⟨lo, km, hw, hl, he⟩ := hin.out
                refine ⟨lo, km, hw, hl, ?_⟩
                rw [he, wv_take_next (words la 8) i, words_getD la 8 i hgo, wv_take_ge (words lb 8) 8 (by rw [words_length]; omega), Nat.add_mul, Nat.add_assoc, Nat.mul_assoc]
              clear hin
              obtain ⟨wi, hwi⟩ : ∃ wi : World, wi = wr := ⟨_, rfl⟩
              clear hwi wi
              go_wp2
              go_loopw [10, 13] (fun vc vk wr => ∃ (k c : Nat), vk = .int .i64 k ∧ vc = .int .u64 c ∧ c < 4294967296 ∧ k ≤ 16 ∧ Hid (∃ lo, MA wr w.heap.size la lb lc lo ∧ Wd lo ∧ lo.length = 16 ∧ wv lo + c * 4294967296 ^ k = le8 lc + wv ((words la 8).take (i + 1)) * wv (words lb 8)) ∧ Below w.heap.size w wr) (fun _ vk _ => 16 - (intOf vk).toNat)
              case atStart => exact ⟨i + 8, c, by go_num, rfl, hc4, by omega, hin2, hBw⟩
              case round =>
                clear hin2 hBw hc4 hk
                obtain ⟨k, c, rfl, rfl, hc4, hk, hin, hBw⟩ := hrel
                by_cases hgk : k < 16
                · obtain ⟨lo, km0, hw, hl, he0⟩ := hin.out
                  have km := Lib.hid km0
                  have NXT := Lib.hid (wmul_carry (by omega) he0)
                  have hd := hw.getD k
                  have c1 := km.out.cell k (by omega)
                  have f1 := km.out.free k
                  clear hin km0 he0
                  generalize lo.getD k 0 = d at *
                  obtain ⟨r, hr⟩ : ∃ r, d + c = r := ⟨_, rfl⟩
                  have ha1 : IntKind.u64.wrap ((d : Int) + c) = (r : Nat) := by rw [← Int.natCast_add, hr]; exact wu64 r (by omega)
                  have ha0 : (d : Int) + c = (r : Nat) := by omega
                  have hr64 : r < 18446744073709551616 := by omega
                  rw [hr] at NXT
                  have hmask := u64_mask r hr64
                  have NM := Lib.hid (km.out.set k (r % 4294967296))
                  have hBy := below_set' hBw (w.heap.size + 4) k (.int .u64 ((r % 4294967296 : Nat) : Nat)) (by omega)
                  have hw2 := hw.set k (r % 4294967296) (by omega)
                  have hl2 : (lo.set k (r % 4294967296)).length = 16 := by rw [List.length_set]; exact hl
                  clear km hw hBw
                  go_wp2
                  go_roundw
                  case rel => exact ⟨k + 1, r / 4294967296, by go_num, val_int (by omega), by omega, by omega, ⟨_, NM.out, hw2, hl2, NXT.out⟩, hBy⟩
                  case measure => simp [intOf]; omega
                · have hk16 : k = 16 := by omega
                  subst hk16
                  have hst : Hid (∃ lo, MA wr w.heap.size la lb lc lo ∧ Wd lo ∧ lo.length = 16 ∧ wv lo = le8 lc + wv ((words la 8).take (i + 1)) * wv (words lb 8)) := by
                    obtain ⟨lo, km, hw, hl, he⟩ := hin.out
                    refine ⟨lo, km, hw, hl, ?_⟩
                    have h1 := wv_lt ((words_ok la 8).take (i + 1))
                    have h2 := wv_lt (words_ok lb 8)
                    have h3 := le8_lt lc
                    rw [words_length] at h2
                    rw [List.length_take, words_length] at h1
                    have h4 : wv ((words la 8).take (i + 1)) < 4294967296 ^ 8 := Nat.lt_of_lt_of_le h1 (Nat.pow_le_pow_right (by decide) (by omega))
                    rw [hc, show 32 = 4 * 8 from rfl, wpow] at h3
                    have h5 := mul_pow16 h4 h2 h3
                    rcases Nat.eq_zero_or_pos c with h0 | h0
                    · rw [h0, Nat.zero_mul, Nat.add_zero] at he; exact he
                    · have h6 : 4294967296 ^ 16 ≤ c * 4294967296 ^ 16 := Nat.le_mul_of_pos_left _ h0
                      omega
                  clear hin
                  go_wp2
                  go_roundw
                  case rel => exact ⟨i + 1, by go_num, by omega, hst, hBw⟩
                  case measure => simp [intOf]; omega
        · have hi8 : i = 8 := by omega
          subst hi8
          have hfin : Hid (∃ lo, MA wr w.heap.size la lb lc lo ∧ Wd lo ∧ lo.length = 16 ∧ wv lo = le8 la * le8 lb + le8 lc) := by
            obtain ⟨lo, km, hw, hl, he⟩ := hst.out
            refine ⟨lo, km, hw, hl, ?_⟩
            rw [he, List.take_of_length_le (by rw [words_length]; omega), wv_words la 8 (by omega), wv_words lb 8 (by omega), List.take_of_length_le (by omega), List.take_of_length_le (by omega), Nat.add_comm]
          clear hst
          obtain ⟨lo, km0, hw, hl, he0⟩ := hfin.out
          have km := Lib.hid km0
          have he := Lib.hid he0
          have W := Lib.hid hw
          clear hfin km0 he0 hw
          obtain ⟨S, hS⟩ : ∃ S, S = wr.heap.size := ⟨_, rfl⟩
          have HS := Lib.hid hS
          have hBS : w.heap.size + 4 < S := by rw [hS]; exact km.out.2.2.2.2.lt
          have kma : Hid (MA (wr.alloc (.cells (part64 (wv lo) 0).toArray 55)) w.heap.size la lb lc lo) := MA.below km.out ((Below.refl _ _).alloc (Nat.le_refl _) _)
          have kbs : Hid (Blk (wr.alloc (.cells (part64 (wv lo) 0).toArray 55)) S 55 (part64 (wv lo) 0)) := by rw [hS]; exact Blk.new _ _ _
          have hBa := hBw.alloc hBw.size (.cells (part64 (wv lo) 0).toArray 55)
          clear hS
          go_wp2
          rw [← HS.out]
          go_loopw [74] (fun vi w2 => ∃ (i : Nat), vi = .int .i64 i ∧ i ≤ 64 ∧ Hid (Blk w2 S 55 (part64 (wv lo) i)) ∧ Hid (MA w2 w.heap.size la lb lc lo) ∧ Below w.heap.size w w2) (fun vi _ => 64 - (intOf vi).toNat)
          case atStart =>
            rw [part64_zero] at kma kbs hBa
            exact ⟨0, rfl, by omega, by rw [part64_zero]; exact kbs, kma, hBa⟩
          case round =>
            clear kma kbs hBa km hBw
            obtain ⟨i, rfl, hi, kbs, km, hBw⟩ := hrel
            by_cases hgo : i < 64
            · have c1 := km.out.cell (i / 4) (by omega)
              have hx := W.out.getD (i / 4)
              have c2 := Blk.cell kbs.out i _ (part64_get (wv lo) i hgo)
              have f2 := Blk.free kbs.out i
              have BY := Lib.hid (wv_byte W.out i)
              have hst3 := Lib.hid (Blk.set kbs.out i (.int .u8 ((wv lo / 256 ^ i % 256 : Nat) : Nat)))
              have PS := Lib.hid (part64_set (wv lo) i hgo)
              have hB2 := below_set' hBw S i (.int .u8 ((wv lo / 256 ^ i % 256 : Nat) : Nat)) (by omega)
              have kmf := Lib.hid (km.out.far (by omega) i (.int .u8 ((wv lo / 256 ^ i % 256 : Nat) : Nat)) (b := S))
              generalize lo.getD (i / 4) 0 = x at *
              clear km hBw
              go_wp2
              have e : ((x : Int) / 2 ^ (8 * (i % 4)) % 256) = ((wv lo / 256 ^ i % 256 : Nat) : Int) := by rw [← BY.out]; simp
              rw [e]
              go_roundw
              case rel => exact ⟨i + 1, by go_num, by omega, PS.out ▸ hst3.out, kmf, hB2⟩
              case measure => simp [intOf]; omega
            · have hi6 : i = 64 := by omega
              subst hi6
              have hcv := conv_blk (P := Tryz.prog) (src := 50) (dst := 9) Tryz.underlying50 Tryz.underlying5 Tryz.underlying9 (leBytes_length (wv lo) 64) (part64_end (wv lo) ▸ kbs.out)
              have HV := Lib.hid (cut_val (N := wv lo) (by have h := wv_lt W.out; rwa [hl] at h))
              have HE := Lib.hid he.out
              go_wp2_with fail
              refine (reduce_ok _ wr (HO.out.below hBw h0) (Nat.lt_of_lt_of_le h0 hBw.size)).mono ?_
              rintro e w9 ⟨rfl, hb9⟩
              rw [HV.out, HE.out]
              have km9 := Lib.hid (km.out.below hb9)
              have hB9 := hBw.trans (hb9.mono hBw.size)
              have HL : Hid ((bvals (leBytes ((le8 la * le8 lb + le8 lc) % Lq) 32)).length = 32) := by simp [Hid, bvals, leBytes]
              clear hb9 km kbs hcv
              go_wp2_with (refine store_blkS km9.out.2.2.2.1 b32_size HL.out (by simp [zero32]) (bvals_one _) rfl rfl rfl rfl ?_)
              exact ret_blkS rfl (Blk.setRow km9.out.2.2.2.1 _) Tryz.underlying48 (by rw [HL.out]; exact b32_size) rfl rfl ⟨rfl, below_row hB9 _ _ (by omega)⟩
end Go.Proofs.YtkhdhiddhnmdkaaGreatDoor

namespace Go.Proofs.YtkhdhiddhnmdkaaGreatDoor
open Go.RowKit

end Go.Proofs.YtkhdhiddhnmdkaaGreatDoor

namespace Go.Proofs.YtkhdhiddhnmdkaaGreatDoor
open Go.RowKit

theorem le8_L : leBytes Lq 32 = [237, 211, 245, 92, 26, 99, 18, 88, 214, 156, 247, 162, 222, 249, 222, 20, 0, 0, 0, 0, 0, 0, 0, 0, 0, 0, 0, 0, 0, 0, 0, 16] := by decide +kernel
end Go.Proofs.YtkhdhiddhnmdkaaGreatDoor

namespace Go.Proofs.YtkhdhiddhnmdkaaGreatDoor
open Go.RowKit

def cutN (s : ByteArray) (n : Nat) : ByteArray := if s.size ≤ n then s else s.extract 0 n
theorem cut80_ok (s : ByteArray) (w : World) :
    Calls Tryz.prog 4 #[.string s, .int .i64 80] w fun e w' => e = .returned (.string (cutN s 80)) ∧ w = w' := by
  by_cases hs : s.size ≤ 80
  · rw [show cutN s 80 = s from if_pos hs]
    go_enter Tryz.func4, Tryz.ntmps4
    go_wp2
    go_ret
    exact ⟨rfl, rfl⟩
  · rw [show cutN s 80 = s.extract 0 80 from if_neg hs]
    go_enter Tryz.func4, Tryz.ntmps4
    go_wp2
    go_ret
    exact ⟨rfl, rfl⟩
end Go.Proofs.YtkhdhiddhnmdkaaGreatDoor

namespace Go.Proofs.YtkhdhiddhnmdkaaGreatDoor
open Go.RowKit

/-! guarded operations of a quiet walk -/
end Go.Proofs.YtkhdhiddhnmdkaaGreatDoor

namespace Go.Proofs.YtkhdhiddhnmdkaaGreatDoor
open Go.RowKit

/-- three arrays of bytes -/
def M3 (w : World) (B : Nat) (la lb lc : List UInt8) : Prop := Blk w B 48 (bvals la) ∧ Blk w (B + 1) 48 (bvals lb) ∧ Blk w (B + 2) 48 (bvals lc)
theorem M3.below {w w' : World} {B : Nat} {la lb lc : List UInt8} (h : M3 w B la lb lc) (hb : Below w.heap.size w w') : M3 w' B la lb lc :=
  ⟨h.1.below hb h.1.lt, h.2.1.below hb h.2.1.lt, h.2.2.below hb h.2.2.lt⟩
theorem M3.start (w : World) (la lb lc : List UInt8) : M3 (((w.alloc (.cells (bvals la).toArray 48)).alloc (.cells (bvals lb).toArray 48)).alloc (.cells (bvals lc).toArray 48)) w.heap.size la lb lc := by
  have s1 : ∀ (w : World) (o : Obj), (w.alloc o).heap.size = w.heap.size + 1 := fun w o => by simp
  have n : ∀ (w : World) (t : TypeId) (cs : List Value) (k : Nat), k = w.heap.size → Blk (w.alloc (.cells cs.toArray t)) k t cs := fun w t cs k hk => by subst hk; exact Blk.new w t cs
  exact ⟨((n _ _ _ _ rfl).alloc _).alloc _, (n _ _ _ _ (by rw [s1])).alloc _, n _ _ _ _ (by rw [s1, s1])⟩
end Go.Proofs.YtkhdhiddhnmdkaaGreatDoor

namespace Go.Proofs.YtkhdhiddhnmdkaaGreatDoor
open Go.RowKit

def oneB : List UInt8 := 1 :: List.replicate 31 0
def zeroB : List UInt8 := List.replicate 32 0
theorem le8_one : le8 oneB = 1 := by decide +kernel
theorem le8_zero : le8 zeroB = 0 := by decide +kernel
/-- a new array, filled -/
theorem newRow (w : World) (X : List UInt8) : Blk ((w.alloc (.cells ([Value.int .u8 0, Value.int .u8 0, Value.int .u8 0, Value.int .u8 0, Value.int .u8 0, Value.int .u8 0, Value.int .u8 0, Value.int .u8 0, Value.int .u8 0, Value.int .u8 0, Value.int .u8 0, Value.int .u8 0, Value.int .u8 0, Value.int .u8 0, Value.int .u8 0, Value.int .u8 0, Value.int .u8 0, Value.int .u8 0, Value.int .u8 0, Value.int .u8 0, Value.int .u8 0, Value.int .u8 0, Value.int .u8 0, Value.int .u8 0, Value.int .u8 0, Value.int .u8 0, Value.int .u8 0, Value.int .u8 0, Value.int .u8 0, Value.int .u8 0, Value.int .u8 0, Value.int .u8 0]).toArray 48)).setRow w.heap.size (bvals X).toArray) w.heap.size 48 (bvals X) ∧
    Below w.heap.size w ((w.alloc (.cells ([Value.int .u8 0, Value.int .u8 0, Value.int .u8 0, Value.int .u8 0, Value.int .u8 0, Value.int .u8 0, Value.int .u8 0, Value.int .u8 0, Value.int .u8 0, Value.int .u8 0, Value.int .u8 0, Value.int .u8 0, Value.int .u8 0, Value.int .u8 0, Value.int .u8 0, Value.int .u8 0, Value.int .u8 0, Value.int .u8 0, Value.int .u8 0, Value.int .u8 0, Value.int .u8 0, Value.int .u8 0, Value.int .u8 0, Value.int .u8 0, Value.int .u8 0, Value.int .u8 0, Value.int .u8 0, Value.int .u8 0, Value.int .u8 0, Value.int .u8 0, Value.int .u8 0, Value.int .u8 0]).toArray 48)).setRow w.heap.size (bvals X).toArray) :=
  ⟨Blk.setRow (Blk.new w 48 [Value.int .u8 0, Value.int .u8 0, Value.int .u8 0, Value.int .u8 0, Value.int .u8 0, Value.int .u8 0, Value.int .u8 0, Value.int .u8 0, Value.int .u8 0, Value.int .u8 0, Value.int .u8 0, Value.int .u8 0, Value.int .u8 0, Value.int .u8 0, Value.int .u8 0, Value.int .u8 0, Value.int .u8 0, Value.int .u8 0, Value.int .u8 0, Value.int .u8 0, Value.int .u8 0, Value.int .u8 0, Value.int .u8 0, Value.int .u8 0, Value.int .u8 0, Value.int .u8 0, Value.int .u8 0, Value.int .u8 0, Value.int .u8 0, Value.int .u8 0, Value.int .u8 0, Value.int .u8 0]) (bvals X), below_row ((Below.refl _ w).alloc (Nat.le_refl _) _) _ _ (Nat.le_refl _)⟩
theorem le8_red (V : Nat) : le8 (leBytes (V % Lq) 32) = V % Lq := by
  rw [le8_leBytes, Nat.mod_eq_of_lt (Nat.lt_trans (Nat.mod_lt _ Lq_pos) (by decide +kernel))]
theorem ring_eq (a b c : Nat) : (a * ((b * 1 + c) % Lq) + 0) % Lq = (a * b + (a * c + 0) % Lq) % Lq := by
  rw [Nat.mul_one, Nat.add_zero, Nat.add_zero, Nat.mul_mod, Nat.mod_mod, ← Nat.mul_mod, Nat.mul_add]
  exact (Nat.add_mod_mod ..).symm
theorem cut32 {l : List UInt8} (h : l.length = 32) : cut64 ⟨l.toArray⟩ = ⟨l.toArray⟩ := if_pos (by show l.toArray.size ≤ 64; rw [List.size_toArray, h]; omega)

end Go.Proofs.YtkhdhiddhnmdkaaGreatDoor

namespace Go.Proofs.YtkhdhiddhnmdkaaGreatDoor
open Go.RowKit

def bitv (l : List UInt8) (i : Nat) : Bool := (((l.getD (i / 8) 0).toNat / 2 ^ (i % 8) % 2 : Nat) : Int) == 1
def bitvals (l : List UInt8) (n : Nat) : List Value := (List.range n).map (fun i => Value.bool (bitv l i)) ++ List.replicate (256 - n) (.bool false)
theorem bitvals_length (l : List UInt8) (n : Nat) (h : n ≤ 256) : (bitvals l n).length = 256 := by
  simp only [bitvals, List.length_append, List.length_map, List.length_range, List.length_replicate]; omega
theorem bitvals_zero (l : List UInt8) : bitvals l 0 = List.replicate 256 (.bool false) := rfl
theorem bitvals_old (l : List UInt8) (n : Nat) (h : n < 256) : (bitvals l n)[n]? = some (.bool false) := by
  unfold bitvals
  rw [List.getElem?_append_right (by simp), show 256 - n = (256 - (n + 1)) + 1 from by omega, List.replicate_succ]
  simp
theorem bitvals_set (l : List UInt8) (n : Nat) (h : n < 256) : (bitvals l n).set n (.bool (bitv l n)) = bitvals l (n + 1) := by
  unfold bitvals
  rw [List.set_append_right _ _ (by simp), show 256 - n = (256 - (n + 1)) + 1 from by omega, List.replicate_succ, List.range_succ]
  simp
theorem bitvals_get (l : List UInt8) (i : Nat) (h : i < 256) : (bitvals l 256)[i]? = some (.bool (bitv l i)) := by
  unfold bitvals
  rw [List.getElem?_append_left (by simp [h])]
  simp [h]
theorem boolInfo : (Tryz.prog.info? 4).map (fun i => (i.zero, i.size, i.bytes)) = some (some (.bool false), 1, 1) := by kernel_rfl
theorem bit_and (x k : Nat) (hx : x < 256) : bits .and .u8 ((x : Int) / 2 ^ k) 1 = ((x / 2 ^ k % 2 : Nat) : Int) := by
  have h := u8_and1 (x / 2 ^ k) (Nat.lt_of_le_of_lt (Nat.div_le_self ..) hx)
  rw [Int.natCast_ediv, Int.natCast_pow, show ((2 : Nat) : Int) = 2 from rfl] at h
  exact h

set_option maxHeartbeats 4000000 in
set_option maxRecDepth 100000 in
theorem bits_ok (l : List UInt8) (w : World) (hl : l.length = 32) :
    Calls Tryz.prog 62 #[ag l] w fun e w' => ∃ b, e = .returned (.slice (some ⟨b, 0, none⟩) 256 256) ∧ Blk w' b 4 (bitvals l 256) ∧ Below w.heap.size w w' := by
  obtain ⟨i0, hi, hz0, hz1, hz2⟩ := info_parts boolInfo
  have I := Lib.hid hi
  have I0 := Lib.hid hz0
  have I1 := Lib.hid hz1
  have I2 := Lib.hid hz2
  have LL := Lib.hid hl
  clear hi hz0 hz1 hz2
  show Calls Tryz.prog _ #[.agg (bvals l).toArray] w _
  have HA := Lib.hid (Blk.new w 48 (bvals l))
  have HB0 := Lib.hid ((Below.refl _ w).alloc (Nat.le_refl _) (.cells (bvals l).toArray 48))
  go_enter Tryz.func62, Tryz.ntmps62
  go_wp2_with (at_make; refine wpList_make_full _ rfl _ _ 113 rfl w.heap.size 4 i0 (.bool false) 1 Tryz.underlying113 I.out I0.out I1.out _ _ _ _ 256 rfl rfl (by omega) (by omega) (by rw [I2.out]; omega) (by unfold maxLen; omega) (by simp) ?_)
  intro w2 hown hgrow
  rw [made_one] at hown
  have hB2 := HB0.out.grown hgrow HB0.out.size (fun k hk => by cases hk)
  have HA2 := Lib.hid (show Blk w2 w.heap.size 48 (bvals l) from by
    unfold Blk; rw [hgrow.block w.heap.size HA.out.lt (by simp)]; exact HA.out)
  obtain ⟨hk2, hge⟩ := blk_of_own hown
  have HK := Lib.hid hk2
  have hbl := HA.out.lt
  clear hown hgrow hk2
  generalize w.heap.size + 1 = g at *
  go_wp2
  go_loopw [8] (fun vi wr => ∃ i : Nat, vi = .int .i64 i ∧ i ≤ 256 ∧ Hid (Blk wr g 4 (bitvals l i)) ∧ Hid (Blk wr w.heap.size 48 (bvals l)) ∧ Below w.heap.size w wr) (fun vi _ => 256 - (intOf vi).toNat)
  case atStart => exact ⟨0, rfl, by omega, by rw [bitvals_zero]; exact HK, HA2, hB2⟩
  case round =>
    obtain ⟨i, rfl, hi, km, ka, hBw⟩ := hrel
    by_cases hgo : i < 256
    · have c1 := ka.out.cell (i / 8) _ (bvals_get l (i / 8) (by omega))
      have c2 := km.out.cell i _ (bitvals_old l i hgo)
      have f2 := km.out.free i
      have hx := (l.getD (i / 8) 0).toNat_lt
      have BV : Hid (bitv l i = ((((l.getD (i / 8) 0).toNat / 2 ^ (i % 8) % 2 : Nat) : Int) == 1)) := rfl
      have e2 := bit_and (l.getD (i / 8) 0).toNat (i % 8) hx
      have NM := Lib.hid (bitvals_set l i hgo ▸ km.out.set i (.bool (bitv l i)))
      have hne : w.heap.size ≠ g := by have := ka.out.lt; intro e; subst e; exact absurd ka.out (by intro h; have := km.out; unfold Blk at *; rw [h] at this; simp at this)
      have NA := Lib.hid (ka.out.far hne i (.bool (bitv l i)))
      have hB3 := below_set' hBw g i (.bool (bitv l i)) hge
      generalize (l.getD (i / 8) 0).toNat = x at *
      clear km ka hBw
      go_wp2
      rw [show ((x : Int) / 2 ^ (i % 8) % 2 == 1) = bitv l i from by rw [BV.out]; simp]
      go_roundw
      case rel => exact ⟨i + 1, by go_num, by omega, NM, NA, hB3⟩
      case measure => simp [intOf]; omega
    · obtain rfl : i = 256 := by omega
      go_wp2
      go_ret
      exact ⟨g, rfl, km.out, hBw⟩
end Go.Proofs.YtkhdhiddhnmdkaaGreatDoor
