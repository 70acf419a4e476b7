/-
The contracts of scalar's functions.
The contracts of scalar's functions: Reduce.
A region that draws its order: a head that is quiet in a class of worlds (it reads, or calls what makes memory of its own), and a tail in one forced order that may write.
After the library's two theories, Derived/StillTail.lean (the tail) and Derived/Deep/Quiet.lean (the class): joined.
Laws of the quiet walk: a plain operation, a call, a whole array loaded.
The contracts of scalar's functions: Fits, MulAdd, Bits.
-/
import Derived.StillTail
import Derived.Deep.Quiet
import Derived.Test.YtkhdhiddhnmdkaaGreatDoorPk26
namespace Go.Proofs.YtkhdhiddhnmdkaaGreatDoor
open Go.RowKit

/-- a whole array loaded, stored, returned -/
theorem load_blkS {P : Program} {ops : Array Oper} {rest : List Oper} {o : Oper} {a : Act} {w : World} {Q : Exit → Act → World → Prop} {b ty n : Nat} {e : TypeId} {x : Operand} {cs : List Value} {t : TypeId} (hb : Blk w b t cs)
    (hu : P.underlying ty = some (.array n e)) (hi : (P.info? ty).map (·.size) = some cs.length) (hgd : o.guard = none) (ho : o.op = .load ty x) (hx : a.eval x = .pointer (some ⟨b, 0, none⟩))
    (h : wpList P ops Q rest (a.put o.dst (.agg cs.toArray)) w) : wpList P ops Q (o :: rest) a w :=
  wpList_load_row hgd ty x ho b hx t cs.toArray (0, 0) _ hb hu rfl (by rw [hi]; simp) h
theorem store_blkS {P : Program} {ops : Array Oper} {rest : List Oper} {o : Oper} {a : Act} {w : World} {Q : Exit → Act → World → Prop} {b ty n : Nat} {x y : Operand} {old cs : List Value} {t : TypeId} (hb : Blk w b t old)
    (hi : (P.info? ty).map (·.size) = some n) (hn : cs.length = n) (hl : old.length = n) (h1 : ∀ v ∈ cs, v.oneCell' = true) (hgd : o.guard = none) (ho : o.op = .store ty x y) (hx : a.eval x = .pointer (some ⟨b, 0, none⟩)) (hy : a.eval y = .agg cs.toArray)
    (h : wpList P ops Q rest (a.put o.dst undef) (w.setRow b cs.toArray)) : wpList P ops Q (o :: rest) a w :=
  wpList_store_row hgd ty x y ho b cs.toArray hx hy t old.toArray hb (by rw [hi]; simp [hn]) (by simp; omega) (by simpa using h1) h
theorem ret_blkS {P : Program} {fn : Func} {R : Ending → World → Prop} {a : Act} {w : World} {p : Tmp} {ty n : Nat} {e : TypeId} {b : Nat} {t : TypeId} {cs : List Value} (h : fn.results = #[.cell p ty]) (hb : Blk w b t cs)
    (hu : P.underlying ty = some (.array n e)) (hi : (P.info? ty).map (·.size) = some cs.length) (hp : a.tmps.getD p undef = .pointer (some ⟨b, 0, none⟩)) (hd : a.defers = []) (hR : R (.returned (.agg cs.toArray)) w) : bodyPost P fn R .ret a w :=
  bodyPost_ret (results_cell_row h a.tmps w b t cs.toArray (0, 0) _ hp hb hu rfl (by rw [hi]; simp)) hd hR
theorem bvals_one (l : List UInt8) : ∀ v ∈ bvals l, v.oneCell' = true := by
  intro v hv
  obtain ⟨b, _, rfl⟩ := List.mem_map.1 hv
  rfl
theorem b32_size : (Tryz.prog.info? 48).map (·.size) = some 32 := by kernel_rfl

/-- a row of 32 bytes, filled as far as i -/
def part (N i : Nat) : List Value := bvals (leBytes N i ++ List.replicate (32 - i) 0)
theorem part_zero (N : Nat) : part N 0 = List.replicate 32 (.int .u8 0) := by simp [part, leBytes, bvals]
theorem part_end (N : Nat) : part N 32 = bvals (leBytes N 32) := by simp [part]
theorem part_length (N i : Nat) (h : i ≤ 32) : (part N i).length = 32 := by simp [part, bvals, leBytes]; omega
theorem part_set (N i : Nat) (h : i < 32) : (part N i).set i (.int .u8 ((N / 256 ^ i % 256 : Nat) : Nat)) = part N (i + 1) := by
  unfold part
  rw [leBytes_succ, show 32 - i = (32 - (i + 1)) + 1 from by omega, List.replicate_succ]
  simp only [bvals, List.map_append, List.map_cons, List.append_assoc, List.cons_append, List.nil_append]
  rw [List.set_append_right _ _ (by simp [leBytes])]
  simp [leBytes]

theorem part_get (N i : Nat) (h : i < 32) : (part N i)[i]? = some (.int .u8 0) := by
  unfold part bvals
  rw [show 32 - i = (32 - (i + 1)) + 1 from by omega, List.replicate_succ, List.map_append, List.getElem?_append_right (by simp [leBytes])]
  simp [leBytes]

set_option maxHeartbeats 4000000 in
set_option maxRecDepth 100000 in
theorem nbytes_ok (l : List Nat) (b : Nat) (w : World) (h : Nm w b l) :
    Calls Tryz.prog 94 #[.pointer (some ⟨b, 0, none⟩)] w fun e w' => e = .returned (ag (leBytes (wv l) 32)) ∧ Below w.heap.size w w' := by
  have H := Lib.hid h
  clear h
  go_enter Tryz.func94, Tryz.ntmps94
  go_wp2
  go_loopw [5] (fun vi wr => ∃ (i : Nat), vi = .int .i64 i ∧ i ≤ 32 ∧ Hid (Blk wr (w.heap.size + 1) 48 (part (wv l) i)) ∧ Hid (Blk wr w.heap.size 48 (List.replicate 32 (.int .u8 0))) ∧ Below w.heap.size w wr) (fun vi _ => 32 - (intOf vi).toNat)
  case atStart =>
    refine ⟨0, rfl, by omega, ?_, ?_, ((Below.refl _ _).alloc (Nat.le_refl _) _).alloc (by simp) _⟩
    · rw [part_zero]
      have := Blk.new (w.alloc (.cells #[.int .u8 0, .int .u8 0, .int .u8 0, .int .u8 0, .int .u8 0, .int .u8 0, .int .u8 0, .int .u8 0, .int .u8 0, .int .u8 0, .int .u8 0, .int .u8 0, .int .u8 0, .int .u8 0, .int .u8 0, .int .u8 0, .int .u8 0, .int .u8 0, .int .u8 0, .int .u8 0, .int .u8 0, .int .u8 0, .int .u8 0, .int .u8 0, .int .u8 0, .int .u8 0, .int .u8 0, .int .u8 0, .int .u8 0, .int .u8 0, .int .u8 0, .int .u8 0] 48)) 48 (List.replicate 32 (.int .u8 0))
      show Blk _ _ _ _
      simpa using this
    · exact Blk.alloc (Blk.new _ _ (List.replicate 32 (.int .u8 0))) _
  case round =>
    obtain ⟨i, rfl, hi, hb3, hb2, hBw⟩ := hrel
    by_cases hgo : i < 32
    · have hbl : b < w.heap.size := H.out.2.2.lt
      have ka : wr.cell? ⟨b, i / 4, none⟩ = some (.int .u32 (l.getD (i / 4) 0 : Nat)) := by
        rw [hBw.cell (p := ⟨b, i / 4, none⟩) hbl]
        exact Blk.cell H.out.2.2 (i / 4) _ (wvals_get l (i / 4) (by rw [H.out.2.1]; omega))
      have hx := H.out.1.getD (i / 4)
      have kf := Blk.free hb3.out i
      have BY := Lib.hid (wv_byte H.out.1 i)
      have kc := Blk.cell hb3.out i _ (part_get (wv l) i hgo)
      have hst3 := Lib.hid (Blk.set hb3.out i (.int .u8 ((wv l / 256 ^ i % 256 : Nat) : Nat)))
      have hst2 := Lib.hid (Blk.far hb2.out (show w.heap.size ≠ w.heap.size + 1 by omega) i (.int .u8 ((wv l / 256 ^ i % 256 : Nat) : Nat)))
      have PS := Lib.hid (part_set (wv l) i hgo)
      have hB2 := below_set' hBw (w.heap.size + 1) i (.int .u8 ((wv l / 256 ^ i % 256 : Nat) : Nat)) (by omega)
      generalize l.getD (i / 4) 0 = x at *
      go_wp2
      have e : ((x : Int) / 2 ^ (8 * (i % 4)) % 256) = ((wv l / 256 ^ i % 256 : Nat) : Int) := by rw [← BY.out]; simp
      rw [e]
      go_roundw
      case rel => exact ⟨i + 1, by go_num, by omega, PS.out ▸ hst3.out, hst2, hB2⟩
      case measure => simp [intOf]; omega
    · have hi9 : i = 32 := by omega
      subst hi9
      have hb3' := hb3.out
      rw [part_end] at hb3'
      have H3 := Lib.hid hb3'
      have hl32 : (bvals (leBytes (wv l) 32)).length = 32 := by simp [bvals, leBytes]
      have HL := Lib.hid hl32
      clear hb3 hb3' hl32
      go_wp2_with (first | refine load_blkS H3.out Tryz.underlying48 (by rw [HL.out]; exact b32_size) rfl rfl rfl ?_ | refine store_blkS hb2.out b32_size HL.out (by simp) (bvals_one _) rfl rfl rfl rfl ?_)
      exact ret_blkS rfl (Blk.setRow hb2.out _) Tryz.underlying48 (by rw [HL.out]; exact b32_size) rfl rfl ⟨rfl, below_row hBw _ _ (Nat.le_refl _)⟩
end Go.Proofs.YtkhdhiddhnmdkaaGreatDoor

namespace Go.Proofs.YtkhdhiddhnmdkaaGreatDoor
open Go.RowKit

def cut64 (s : ByteArray) : ByteArray := if s.size ≤ 64 then s else s.extract 0 64
theorem reduce_zero (N n : Nat) (h : N < 2 ^ n) : 0 = N / 2 ^ n % Lq := by rw [Nat.div_eq_of_lt h]; rfl
theorem reduce_step {N k v : Nat} (h : v = N / 2 ^ (k + 1) % Lq) : (2 * v + N / 2 ^ k % 2) % Lq = N / 2 ^ k % Lq := by
  subst h
  conv => rhs; rw [bit_step N k]
  generalize N / 2 ^ (k + 1) = m
  generalize N / 2 ^ k % 2 = b
  rw [Nat.add_mod, Nat.mul_mod, Nat.mod_mod, ← Nat.mul_mod, ← Nat.add_mod]
theorem u8_and1 (a : Nat) (h : a < 256) : bits .and .u8 (a : Int) 1 = ((a % 2 : Nat) : Int) := by
  have := u8_and_nat a 1 h (by omega)
  rw [Nat.and_one_is_mod] at this
  exact this
theorem zero9 : Wd (List.replicate 9 0) := fun d h => by rw [(List.mem_replicate.1 h).2]; decide
theorem wv_zero9 : wv (List.replicate 9 0) = 0 := by decide

set_option maxHeartbeats 4000000 in
set_option maxRecDepth 100000 in
theorem reduce_ok (s : ByteArray) (w : World) (ho : Ordr w) (h0 : 6 < w.heap.size) :
    Calls Tryz.prog 75 #[.string s] w fun e w' => e = .returned (ag (leBytes (le8 (cut64 s).data.toList % Lq) 32)) ∧ Below w.heap.size w w' := by
  have HO := Lib.hid ho
  clear ho
  by_cases hs : s.size ≤ 64
  · have hmn : min (s.size : Int) 64 = s.size := by omega
    have e1 : cut64 s = s := if_pos hs
    rw [e1]
    clear e1
    go_enter Tryz.func75, Tryz.ntmps75
    go_wp2
    clear hmn
    have hlt := le8_lt s.data.toList
    rw [Array.length_toList, show (256 : Nat) = 2 ^ 8 from rfl, ← Nat.pow_mul] at hlt
    have hBYTE := byte_at s
    have LT := Lib.hid (show le8 s.data.toList < 2 ^ (8 * s.size) from hlt)
    have BIT := Lib.hid (le8_bit s.data.toList)
    have LEN : Hid (s.data.toList.length = s.size) := Array.length_toList
    have BYT := Lib.hid hBYTE
    clear hlt hBYTE
    go_loopw [4] (fun vi wr => ∃ (k : Nat) (l : List Nat), vi = .int .i64 (k - 1 : Int) ∧ k ≤ 8 * s.size ∧ Hid (Nm wr (w.heap.size + 1) l) ∧ Hid (wv l = le8 s.data.toList / 2 ^ k % Lq) ∧ Hid (Blk wr w.heap.size 48 (List.replicate 32 (.int .u8 0))) ∧ Below w.heap.size w wr) (fun vi _ => (intOf vi + 1).toNat)
    case atStart =>
      refine ⟨8 * s.size, List.replicate 9 0, by go_num, by omega, ⟨zero9, rfl, ?_⟩, ?_, Blk.alloc (Blk.new _ _ (List.replicate 32 (.int .u8 0))) _, ((Below.refl _ _).alloc (Nat.le_refl _) _).alloc (by simp) _⟩
      · have := Blk.new (w.alloc (.cells (List.replicate 32 (Value.int .u8 0)).toArray 48)) 147 (wvals (List.replicate 9 0))
        rw [show (w.alloc (.cells (List.replicate 32 (Value.int .u8 0)).toArray 48)).heap.size = w.heap.size + 1 by simp] at this
        exact this
      · show _ = _
        rw [wv_zero9]; exact reduce_zero _ _ LT.out
    case round =>
      obtain ⟨k, l, rfl, hk, hnm, heq, hb2, hBw⟩ := hrel
      rcases Nat.eq_zero_or_pos k with rfl | hpos
      · have hz := heq.out
        rw [Nat.pow_zero, Nat.div_one] at hz
        have HZ := Lib.hid hz
        clear heq hz BIT LT BYT
        go_wp2_with fail
        refine (nbytes_ok l _ wr hnm.out).mono ?_
        rintro e w2 ⟨rfl, hb3⟩
        rw [HZ.out]
        have hb2' := Lib.hid (hb2.out.below hb3 hb2.out.lt)
        have hB3 := hBw.trans (hb3.mono hBw.size)
        clear hb3 hb2
        have HL : Hid ((bvals (leBytes (le8 s.data.toList % Lq) 32)).length = 32) := by simp [Hid, bvals, leBytes]
        go_wp2_with (refine store_blkS hb2'.out b32_size HL.out (by simp) (bvals_one _) rfl rfl rfl rfl ?_)
        exact ret_blkS rfl (Blk.setRow hb2'.out _) Tryz.underlying48 (by rw [HL.out]; exact b32_size) rfl rfl ⟨rfl, below_row hB3 _ _ (Nat.le_refl _)⟩
      · obtain ⟨j, rfl⟩ : ∃ j, k = j + 1 := ⟨k - 1, by omega⟩
        have e1 : (((j + 1 : Nat) : Int) - 1) = (j : Int) := by omega
        rw [e1]
        have hj : j / 8 < s.size := by omega
        have hby := BYT.out (j / 8) hj
        have hbit := BIT.out j (by rw [LEN.out]; omega)
        rw [hby] at hbit
        have HBIT := Lib.hid hbit
        have hx := (s[j / 8]).toNat_lt
        have RS := Lib.hid (reduce_step heq.out)
        have heqL := Lib.hid heq.out
        clear e1 hby hbit heq
        have hlt2 : wv l < Lq := by rw [heqL.out]; exact Nat.mod_lt _ Lq_pos
        have HLT := Lib.hid hlt2
        clear hlt2 heqL
        go_wp2_with fail
        have e2 : bits .and .u8 (((s[j / 8]).toNat : Nat) / 2 ^ (j % 8) : Int) 1 % 4294967296 = ((le8 s.data.toList / 2 ^ j % 2 : Nat) : Int) := by
          have h := u8_and1 ((s[j / 8]).toNat / 2 ^ (j % 8)) (Nat.lt_of_le_of_lt (Nat.div_le_self ..) hx)
          rw [HBIT.out] at h
          rw [Int.natCast_ediv, Int.natCast_pow] at h
          rw [show ((2 : Nat) : Int) = 2 from rfl] at h
          rw [h]
          omega
        rw [e2]
        have hxo : ∀ i, i < 8 → wr.cell? ⟨6, i, none⟩ = some (.int .u32 (orderL.getD i 0 : Nat)) := HO.out.below hBw h0
        refine (shift_ok l _ _ wr hnm.out hxo (by omega) HLT.out (by omega)).mono ?_
        rintro e w2 ⟨rfl, ⟨l2, hn2, he2⟩, hon⟩
        rw [RS.out] at he2
        have HN := Lib.hid hn2
        have HE := Lib.hid he2
        have hb2' := Lib.hid (Only.blk hon hb2.out (show w.heap.size ≠ w.heap.size + 1 by omega))
        have hB3 : Below w.heap.size w w2 := hBw.trans (hon.below hBw.size (by omega))
        clear e2 hxo hn2 he2 hon
        go_wp2_with fail
        go_roundw
        case rel => exact ⟨j, l2, rfl, by omega, HN, HE, hb2', hB3⟩
        case measure => simp [intOf]
  · have hmn : min (s.size : Int) 64 = 64 := by omega
    have e1 : cut64 s = s.extract 0 64 := if_neg hs
    have hts : (s.extract 0 64).size = 64 := by rw [ByteArray.size_extract]; omega
    obtain ⟨t, hT⟩ : ∃ t, t = s.extract 0 64 := ⟨_, rfl⟩
    rw [e1, ← hT]
    rw [← hT] at hts
    have HT := Lib.hid hT
    clear e1 hT
    go_enter Tryz.func75, Tryz.ntmps75
    go_wp2
    clear hmn
    rw [← HT.out]
    have hlt := le8_lt t.data.toList
    rw [Array.length_toList, show (256 : Nat) = 2 ^ 8 from rfl, ← Nat.pow_mul] at hlt
    have hBYTE := byte_at t
    have LT := Lib.hid (show le8 t.data.toList < 2 ^ (8 * t.size) from hlt)
    have BIT := Lib.hid (le8_bit t.data.toList)
    have LEN : Hid (t.data.toList.length = t.size) := Array.length_toList
    have BYT := Lib.hid hBYTE
    clear hlt hBYTE
    go_loopw [4] (fun vi wr => ∃ (k : Nat) (l : List Nat), vi = .int .i64 (k - 1 : Int) ∧ k ≤ 8 * t.size ∧ Hid (Nm wr (w.heap.size + 1) l) ∧ Hid (wv l = le8 t.data.toList / 2 ^ k % Lq) ∧ Hid (Blk wr w.heap.size 48 (List.replicate 32 (.int .u8 0))) ∧ Below w.heap.size w wr) (fun vi _ => (intOf vi + 1).toNat)
    case atStart =>
      refine ⟨8 * t.size, List.replicate 9 0, val_int (by omega), by omega, ⟨zero9, rfl, ?_⟩, ?_, Blk.alloc (Blk.new _ _ (List.replicate 32 (.int .u8 0))) _, ((Below.refl _ _).alloc (Nat.le_refl _) _).alloc (by simp) _⟩
      · have := Blk.new (w.alloc (.cells (List.replicate 32 (Value.int .u8 0)).toArray 48)) 147 (wvals (List.replicate 9 0))
        rw [show (w.alloc (.cells (List.replicate 32 (Value.int .u8 0)).toArray 48)).heap.size = w.heap.size + 1 by simp] at this
        exact this
      · show _ = _
        rw [wv_zero9]; exact reduce_zero _ _ LT.out
    case round =>
      obtain ⟨k, l, rfl, hk, hnm, heq, hb2, hBw⟩ := hrel
      rcases Nat.eq_zero_or_pos k with rfl | hpos
      · have hz := heq.out
        rw [Nat.pow_zero, Nat.div_one] at hz
        have HZ := Lib.hid hz
        clear heq hz BIT LT BYT
        go_wp2_with fail
        refine (nbytes_ok l _ wr hnm.out).mono ?_
        rintro e w2 ⟨rfl, hb3⟩
        rw [HZ.out]
        have hb2' := Lib.hid (hb2.out.below hb3 hb2.out.lt)
        have hB3 := hBw.trans (hb3.mono hBw.size)
        clear hb3 hb2
        have HL : Hid ((bvals (leBytes (le8 t.data.toList % Lq) 32)).length = 32) := by simp [Hid, bvals, leBytes]
        go_wp2_with (refine store_blkS hb2'.out b32_size HL.out (by simp) (bvals_one _) rfl rfl rfl rfl ?_)
        exact ret_blkS rfl (Blk.setRow hb2'.out _) Tryz.underlying48 (by rw [HL.out]; exact b32_size) rfl rfl ⟨rfl, below_row hB3 _ _ (Nat.le_refl _)⟩
      · obtain ⟨j, rfl⟩ : ∃ j, k = j + 1 := ⟨k - 1, by omega⟩
        have e1 : (((j + 1 : Nat) : Int) - 1) = (j : Int) := by omega
        rw [e1]
        have hj : j / 8 < t.size := by omega
        have hby := BYT.out (j / 8) hj
        have hbit := BIT.out j (by rw [LEN.out]; omega)
        rw [hby] at hbit
        have HBIT := Lib.hid hbit
        have hx := (t[j / 8]).toNat_lt
        have RS := Lib.hid (reduce_step heq.out)
        have heqL := Lib.hid heq.out
        clear e1 hby hbit heq
        have hlt2 : wv l < Lq := by rw [heqL.out]; exact Nat.mod_lt _ Lq_pos
        have HLT := Lib.hid hlt2
        clear hlt2 heqL
        go_wp2_with fail
        have e2 : bits .and .u8 (((t[j / 8]).toNat : Nat) / 2 ^ (j % 8) : Int) 1 % 4294967296 = ((le8 t.data.toList / 2 ^ j % 2 : Nat) : Int) := by
          have h := u8_and1 ((t[j / 8]).toNat / 2 ^ (j % 8)) (Nat.lt_of_le_of_lt (Nat.div_le_self ..) hx)
          rw [HBIT.out] at h
          rw [Int.natCast_ediv, Int.natCast_pow] at h
          rw [show ((2 : Nat) : Int) = 2 from rfl] at h
          rw [h]
          omega
        rw [e2]
        have hxo : ∀ i, i < 8 → wr.cell? ⟨6, i, none⟩ = some (.int .u32 (orderL.getD i 0 : Nat)) := HO.out.below hBw h0
        refine (shift_ok l _ _ wr hnm.out hxo (by omega) HLT.out (by omega)).mono ?_
        rintro e w2 ⟨rfl, ⟨l2, hn2, he2⟩, hon⟩
        rw [RS.out] at he2
        have HN := Lib.hid hn2
        have HE := Lib.hid he2
        have hb2' := Lib.hid (Only.blk hon hb2.out (show w.heap.size ≠ w.heap.size + 1 by omega))
        have hB3 : Below w.heap.size w w2 := hBw.trans (hon.below hBw.size (by omega))
        clear e2 hxo hn2 he2 hon
        go_wp2_with fail
        go_roundw
        case rel => exact ⟨j, l2, rfl, by omega, HN, HE, hb2', hB3⟩
        case measure => simp [intOf]
end Go.Proofs.YtkhdhiddhnmdkaaGreatDoor

namespace Go.Proofs.YtkhdhiddhnmdkaaGreatDoor
open Go.RowKit
variable {P : Program} {md : Region.Mode} {ops : Array Oper} {C : World → Prop}

end Go.Proofs.YtkhdhiddhnmdkaaGreatDoor

namespace Go.Proofs.YtkhdhiddhnmdkaaGreatDoor
open Go.RowKit

/-! ### regions that read, and call what makes memory of its own -/
/-! .. and with what follows kept apart, so that the frame may be written out before the walk goes on: 'wpQuiet_step' first -/
end Go.Proofs.YtkhdhiddhnmdkaaGreatDoor

namespace Go.Proofs.YtkhdhiddhnmdkaaGreatDoor
open Go.RowKit

theorem words_set (l : List UInt8) (i : Nat) (h : i < 9) : (words l i ++ List.replicate (9 - i) 0).set i (word4 l i) = words l (i + 1) ++ List.replicate (9 - (i + 1)) 0 := by
  rw [words_succ, show 9 - i = (9 - (i + 1)) + 1 from by omega, List.replicate_succ, List.set_append_right _ _ (by rw [words_length]; omega)]
  simp [words_length]
theorem fits_nm {wr w' : World} {l : List UInt8} {b i : Nat} (hnm : Nm wr b (words l i ++ List.replicate (9 - i) 0)) (hB : Below wr.drew.heap.size wr.drew w') (hi : i < 8) :
    Nm (w'.setCell ⟨b, i, none⟩ (.int .u32 (word4 l i : Nat))) b (words l (i + 1) ++ List.replicate (9 - (i + 1)) 0) := by
  refine ⟨?_, ?_, ?_⟩
  · rw [← words_set l i (by omega)]
    exact hnm.1.set _ _ (word4_lt l i)
  · simp [words_length]; omega
  · rw [← words_set l i (by omega), wvals_set]
    exact Blk.set (Blk.below (w := wr.drew) hnm.2.2 hB hnm.2.2.lt) _ _
end Go.Proofs.YtkhdhiddhnmdkaaGreatDoor
