/-
Strings as lists of bytes; a number's last byte.
sha2: the sum of texts.
-/
import Derived.Test.YtkhdhiddhnmdkaaGreatDoorPk04
import Derived.Test.YtkhdhiddhnmdkaaGreatDoorPk06
namespace Go.Proofs.YtkhdhiddhnmdkaaGreatDoor
open Go.RowKit
def by8 (l : List UInt8) : ByteArray := ⟨l.toArray⟩
theorem by8_l (l : List UInt8) : (by8 l).data.toList = l := rfl
theorem by8_of (s : ByteArray) : by8 s.data.toList = s := by simp [by8]
theorem by8_size (l : List UInt8) : (by8 l).size = l.length := by simp [by8, ByteArray.size]
theorem by8_take (l : List UInt8) (k : Nat) : (by8 l).extract 0 k = by8 (l.take k) := by
  apply ByteArray.ext
  simp [by8, ByteArray.data_extract]
theorem by8_drop (l : List UInt8) (k n : Nat) (hn : n = l.length) : (by8 l).extract k n = by8 (l.drop k) := by
  apply ByteArray.ext
  apply Array.ext'
  simp only [by8, ByteArray.data_extract, Array.toList_extract, List.extract_eq_take_drop]
  rw [List.take_of_length_le (by rw [List.length_drop]; omega)]
theorem by8_mid (l : List UInt8) (i j : Nat) : (by8 l).extract i j = by8 ((l.drop i).take (j - i)) := by
  apply ByteArray.ext
  apply Array.ext'
  simp only [by8, ByteArray.data_extract, Array.toList_extract, List.extract_eq_take_drop]
theorem by8_app (a b : List UInt8) : by8 a ++ by8 b = by8 (a ++ b) := by
  apply ByteArray.ext
  simp [by8, ByteArray.data_append]
theorem by8_empty (l : List UInt8) : (by8 l).toList.isEmpty = decide (l.length = 0) := by
  rw [ByteArray.toList_eq]
  show l.isEmpty = _
  cases l <;> rfl
theorem by8_inj {a b : List UInt8} (h : by8 a = by8 b) : a = b := by
  have := congrArg (fun s : ByteArray => s.data.toList) h
  exact this
def sLen8 : Value → Nat
  | .string s => s.size
  | _ => 0
/-- a number's last byte -/
def lo8 (z : Int) : UInt8 := UInt8.ofNat (z % 256).toNat
theorem lo8_val (z : Int) : IntKind.u8.wrap z = ((lo8 z).toNat : Nat) := by
  rw [IntKind.wrap_u8]
  unfold lo8
  have h0 : 0 ≤ z % 256 := Int.emod_nonneg _ (by decide)
  have h1 : z % 256 < 256 := Int.emod_lt_of_pos _ (by decide)
  rw [UInt8.toNat_ofNat']
  omega
theorem lo8_val' (z : Int) : z % 256 = ((lo8 z).toNat : Nat) := by rw [← lo8_val, IntKind.wrap_u8]
theorem byv_app (a b : List UInt8) : byv (a ++ b) = byv a ++ byv b := by simp [byv]
theorem byv_cells (l : List UInt8) : Lib.byteCells l = byv l := rfl
end Go.Proofs.YtkhdhiddhnmdkaaGreatDoor

namespace Go.Proofs.YtkhdhiddhnmdkaaGreatDoor
open Go.RowKit Sha
set_option maxRecDepth 100000
abbrev IsB (B b : Nat) (l : List Value) (w : World) : Prop := Lib.IsBuilder 93 5 B b l w
namespace Sha
def catL (xs : List ByteArray) : List UInt8 := (xs.map (·.data.toList)).flatten
def padN (b : Bool) (n : Nat) : Nat := (2 * kw b - (n + 1 + kw b / 4) % (2 * kw b)) % (2 * kw b)
def tailL (n : Nat) (j : Nat) : List UInt8 := (List.range j).map fun k => lo8 ((n : Int) * 8 / 2 ^ (56 - 8 * k))
def padded (b : Bool) (m : List UInt8) : List UInt8 := m ++ (128 :: List.replicate (padN b m.length + kw b / 4 - 8) 0) ++ tailL m.length 8
def startH (b : Bool) (F : List Int) : Nat → List Int
  | 0 => z8
  | i + 1 => (startH b F i).set i (wordI b (F.getD i 0))
def blkH (b : Bool) (T h : List Int) (p : List UInt8) : Nat → List Int
  | 0 => h
  | j + 1 => mixF b T (blkH b T h p j) ((p.drop (2 * kw b * j)).take (2 * kw b))
def wordB (b : Bool) (x : Int) (j : Nat) : List UInt8 := (List.range j).map fun k => lo8 (x / 2 ^ (kw b - 8 - 8 * k))
def outL (b : Bool) (h : List Int) : List UInt8 := (h.map fun x => wordB b x (kw b / 8)).flatten
def sumF (b : Bool) (T F : List Int) (m : List UInt8) : List UInt8 := outL b (blkH b T (startH b F 8) (padded b m) ((padded b m).length / (2 * kw b)))
theorem tail_succ (n j : Nat) : tailL n (j + 1) = tailL n j ++ [lo8 ((n : Int) * 8 / 2 ^ (56 - 8 * j))] := by unfold tailL; rw [List.range_succ, List.map_append]; rfl
theorem tail_len (n j : Nat) : (tailL n j).length = j := by simp [tailL]
theorem word_succ (b : Bool) (x : Int) (j : Nat) : wordB b x (j + 1) = wordB b x j ++ [lo8 (x / 2 ^ (kw b - 8 - 8 * j))] := by unfold wordB; rw [List.range_succ, List.map_append]; rfl
theorem word_len (b : Bool) (x : Int) (j : Nat) : (wordB b x j).length = j := by simp [wordB]
theorem pad_full (b : Bool) (n : Nat) : (n + 1 + kw b / 4 + padN b n) % (2 * kw b) = 0 := by
  unfold padN
  have hk : kw b = 32 ∨ kw b = 64 := by cases b <;> decide
  rcases hk with h | h <;> rw [h] <;> omega
theorem padded_len (b : Bool) (m : List UInt8) : (padded b m).length = m.length + 1 + kw b / 4 + padN b m.length := by
  unfold padded
  have hk : kw b = 32 ∨ kw b = 64 := by cases b <;> decide
  rw [List.length_append, List.length_append, List.length_cons, List.length_replicate, tail_len]
  rcases hk with h | h <;> rw [h] <;> omega
theorem flat_len (b : Bool) (V : Nat) (H : List Int) : ∀ q, (((H.take q).map fun x => wordB b x V).flatten).length ≤ q * V
  | 0 => by simp
  | q + 1 => by
    rw [List.take_add_one, List.map_append, List.flatten_append, List.length_append, Nat.succ_mul]
    have := flat_len b V H q
    have h2 : ((List.map (fun x => wordB b x V) H[q]?.toList).flatten).length ≤ V := by
      cases H[q]? with
      | none => simp
      | some y => simp [word_len]
    omega
theorem start_len (b : Bool) (F : List Int) : ∀ i, (startH b F i).length = 8
  | 0 => rfl
  | i + 1 => by rw [startH, List.length_set, start_len b F i]
theorem blk_len (b : Bool) (T h : List Int) (p : List UInt8) (hl : h.length = 8) : ∀ j, (blkH b T h p j).length = 8
  | 0 => hl
  | j + 1 => by rw [blkH, mix_len, blk_len b T h p hl j]
end Sha
theorem join_cat (xs : List ByteArray) : Lib.join (xs.map (·.data.toList)) [] = catL xs := by
  cases xs with
  | nil => rfl
  | cons x r =>
    rw [List.map_cons, Lib.join_cons]
    unfold Lib.joinTail catL
    simp [Function.comp_def]
theorem tdiv_nat (a c : Nat) : ((a : Nat) : Int).tdiv (c : Nat) = ((a / c : Nat) : Int) := (Int.ofNat_tdiv a c).symm
theorem tmod_nat (a c : Nat) : ((a : Nat) : Int).tmod (c : Nat) = ((a % c : Nat) : Int) := (Int.ofNat_tmod a c).symm
set_option maxHeartbeats 8000000 in
theorem sum_ok (b : Bool) (T F : List Int) (bk o c : Nat) (xs : List ByteArray) (w : World) (hT : ShaT w T F) (hc : ∀ (j : Nat) x, xs[j]? = some x → w.cell? ⟨bk, o + j, none⟩ = some (.string x)) (hbk : bk < w.heap.size) (hxl : xs.length ≤ 1000) (hcap : xs.length ≤ c) (hlen : (catL xs).length ≤ 1000000)
    (hg1 : 3 < w.heap.size) (hg2 : 2 < w.heap.size) :
    Calls Tryz.prog 31 #[.agg (kb b).toArray, .slice (some ⟨bk, o, none⟩) xs.length c] w fun e w' => e = .returned (.string (by8 (sumF b T F (catL xs)))) ∧ Below w.heap.size w w' := by
  obtain ⟨m, hm⟩ : ∃ m, m = catL xs := ⟨_, rfl⟩
  have hjoin : Hid (∀ w', Below w.heap.size w w' → Calls Tryz.prog 51 #[.slice (some ⟨bk, o, none⟩) xs.length c, .string ⟨#[]⟩] w' fun e w'' => e = .returned (.string (by8 m)) ∧ Below w'.heap.size w' w'') := Lib.hid fun w' hb => by
    have h := sh_join bk o c xs ⟨#[]⟩ w' (fun j x hj => by
      have e := hc j x hj
      rw [← e]
      exact World.cell?_of_block (w := w) (hb.block _ hbk)) (Nat.lt_of_lt_of_le hbk hb.size) (by omega) hcap (by
        show (Lib.join (xs.map (·.data.toList)) []).length ≤ _
        rw [join_cat]; omega)
    refine h.mono ?_
    rintro e w'' ⟨rfl, hb2⟩
    refine ⟨?_, hb2⟩
    show Ending.returned (.string ⟨(Lib.join (xs.map (·.data.toList)) []).toArray⟩) = _
    rw [join_cat, hm]
    rfl
  rw [← hm] at hlen ⊢
  have HT := Lib.hid (And.intro hT (And.intro hg1 hg2))
  clear hT hg1 hg2 hc hm
  have hkw8 : 32 ≤ kw b ∧ kw b ≤ 64 ∧ (kw b = 32 ∨ kw b = 64) := by cases b <;> decide
  obtain ⟨K, hK⟩ : ∃ K, K = kw b := ⟨_, rfl⟩
  go_enter Tryz.func31, Tryz.ntmps31
  go_upto_region 2 with fail
  refine wp_gen (fun wx => Blk wx w.heap.size 62 (kb b) ∧ Blk wx (w.heap.size + 1) 103 (iv .u64 (startH b F 0)) ∧ Below w.heap.size w wx) ⟨(Blk.new w _ (kb b)).alloc _, Blk.new2 _ _ _ (iv .u64 z8), below2 _ _ _⟩ ?_
  intro w1 Z1
  have H1 := Lib.hid Z1
  clear Z1
  have LK : Hid ((kb b).length = 14) := by rw [iv_len]; cases b <;> rfl
  go_wp2_with fail
  go_loopw [18] (fun v wr => ∃ i : Nat, v = .int .i64 i ∧ i ≤ 8 ∧ Hid (Blk wr w.heap.size 62 (kb b) ∧ Blk wr (w.heap.size + 1) 103 (iv .u64 (startH b F i)) ∧ Below w.heap.size w wr)) (fun v _ => 8 - (intOf v).toNat)
  case atStart => exact ⟨0, rfl, by omega, H1.out⟩
  case round =>
    obtain ⟨i, rfl, hi, hr⟩ := hrel
    clear H1
    rcases Nat.lt_or_ge i 8 with h8 | h8
    · have C1 := hr.out.1.drew 1
      have C2 := hr.out.2.1.drew 1
      have BW := below_drewN hr.out.2.2 1
      have qF : ∀ w', Rw (wr.drewN 1) w' → w'.cell? ⟨2, i, none⟩ = some (.int .u64 (F.getD i 0)) := fun w' h => (HT.out.1.below (Rw.out BW h)).cf i h8
      have HC := Lib.hid (And.intro C1 (And.intro C2 BW))
      have hst : Hid (startH b F (i + 1) = (startH b F i).set i (wordI b (F.getD i 0))) := rfl
      have hsl := start_len b F i
      generalize F.getD i 0 = fi at *
      clear C1 C2 BW hr
      go_upto_region 5 with fail
      (refine wp_region_quiet_tail (C := fun w' => Rw (wr.drewN 1) w') 7 (by kernel_rfl) (by kernel_rfl) (Rw.refl _) ?_; simp only [List.take_succ_cons, List.take_zero, List.drop_succ_cons, List.drop_zero])
      (iterate 1 ((with_reducible refine wpQuiet_step (fun K hK => ?_)); refine quiet_autoE (by first | rfl | simp [Region.wanted, yielded]) ?_; apply Exists.intro; refine ⟨fun w' hw' => ?_, ?_⟩; (focus (go_simp; (first | done | rfl | ((try go_ints); (try simp only [↓IntWalk.iteOmega, true_and]); (try go_simp); (first | done | rfl))))); go_simp; (with_reducible apply hK); clear hK K))
      ((with_reducible refine wpQuiet_step (fun K hK => ?_)); refine quiet_loadB (n := 14) (fun w' hw' => HC.out.1.rw hw') Tryz.underlying62 rfl (by kernel_rfl) (LK.out) (by first | rfl | simp [Region.wanted, yielded]) rfl (by go_simp) ?_; go_simp; (with_reducible apply hK); clear hK K)
      (iterate 3 ((with_reducible refine wpQuiet_step (fun K hK => ?_)); refine quiet_autoE (by first | rfl | simp [Region.wanted, yielded]) ?_; apply Exists.intro; refine ⟨fun w' hw' => ?_, ?_⟩; (focus (go_simp; (first | done | rfl | ((try go_ints); (try simp only [↓IntWalk.iteOmega, true_and]); (try go_simp); (first | done | rfl))))); go_simp; (with_reducible apply hK); clear hK K))
      ((with_reducible refine wpQuiet_step (fun K hK => ?_)); refine quiet_callE (by first | rfl | simp [Region.wanted, yielded]) ?_; apply Exists.intro; apply Exists.intro; refine ⟨fun w' => ?_, ?_⟩; (focus (go_simp; try (first | exact ⟨rfl, rfl⟩ | rfl))); apply Exists.intro; refine ⟨fun w' hw' => quiet_below hw' (word_ok' b _ w'), ?_⟩; go_simp; (with_reducible apply hK); clear hK K)
      (repeat ((with_reducible refine wpQuiet_step (fun K hK => ?_)); refine quiet_autoE (by first | rfl | simp [Region.wanted, yielded]) ?_; apply Exists.intro; refine ⟨fun w' hw' => ?_, ?_⟩; (focus (go_simp; (first | done | rfl | ((try go_ints); (try simp only [↓IntWalk.iteOmega, true_and]); (try go_simp); (first | done | rfl))))); go_simp; (with_reducible apply hK); clear hK K))
      refine wpQuiet_nil ?_
      intro w5 hw5
      have O2 := HC.out.2.1.rw hw5
      have ch := O2.icell i (by omega)
      have fh := O2.free i
      have S2 := O2.iset i (wordI b fi)
      rw [← hst.out] at S2
      have HS := Lib.hid (And.intro ((HC.out.1.rw hw5).far (show w.heap.size ≠ w.heap.size + 1 by omega) i (.int .u64 (wordI b fi))) (And.intro S2 (below_set' (Rw.out HC.out.2.2 hw5) (w.heap.size + 1) i (.int .u64 (wordI b fi)) (by omega))))
      clear O2 S2 hw5 HC hst qF
      go_wp2_with fail
      go_roundw
      case rel => exact ⟨i + 1, by go_num, by omega, HS.out⟩
      case measure => simp [intOf]; omega
    · have hi8 : i = 8 := by omega
      rw [hi8] at hr
      clear hi8
      have k0 : wr.cell? ⟨w.heap.size, 0, none⟩ = some (.int .i64 (kw b : Nat)) := kind_cell hr.out.1
      obtain ⟨S, hS⟩ : ∃ S, S = 2 * K := ⟨_, rfl⟩
      obtain ⟨D, hD⟩ : ∃ D, D = K / 4 := ⟨_, rfl⟩
      obtain ⟨n, hn⟩ : ∃ n, n = m.length := ⟨_, rfl⟩
      obtain ⟨N1, hN1⟩ : ∃ N1, N1 = n + 1 + D := ⟨_, rfl⟩
      obtain ⟨r, hrr⟩ : ∃ r, r = N1 % S := ⟨_, rfl⟩
      obtain ⟨q, hq⟩ : ∃ q, q = S - r := ⟨_, rfl⟩
      obtain ⟨p, hp⟩ : ∃ p, p = q % S := ⟨_, rfl⟩
      obtain ⟨p2, hp2⟩ : ∃ p2, p2 = p + D := ⟨_, rfl⟩
      obtain ⟨rp, hrp⟩ : ∃ rp, rp = p2 - 8 := ⟨_, rfl⟩
      have hrS : r < S := by rw [hrr]; exact Nat.mod_lt _ (by omega)
      have hpS : p < S := by rw [hp]; exact Nat.mod_lt _ (by omega)
      have hpad : Hid (padN b m.length = p ∧ rp = padN b m.length + kw b / 4 - 8) := by
        have e : padN b m.length = p := by
          unfold padN
          rw [← hK, ← hS, ← hD, ← hn, ← hN1, ← hrr, ← hq, ← hp]
        exact Lib.hid ⟨e, by rw [e, ← hK, ← hD, ← hp2, ← hrp]⟩
      have eS : (K : Int) * 2 = (S : Int) := by omega
      have eD : (K : Int) / 4 = (D : Int) := by omega
      have e1 : (n : Int) + 1 + (D : Int) = (N1 : Int) := by omega
      have e2 : (N1 : Int) % (S : Int) = (r : Int) := by rw [hrr]; exact (Int.natCast_emod N1 S).symm
      have e3 : (S : Int) - (r : Int) = (q : Int) := by omega
      have e4 : (q : Int) % (S : Int) = (p : Int) := by rw [hp]; exact (Int.natCast_emod q S).symm
      have e5 : (p : Int) + (D : Int) = (p2 : Int) := by omega
      have e6 : (p2 : Int) - 8 = (rp : Int) := by omega
      have hbn : (by8 m).size = n := by rw [by8_size, hn]
      have HN := Lib.hid (And.intro hn (And.intro hS hD))
      have b1 : S ≤ 128 ∧ 0 < S ∧ D ≤ 16 ∧ n ≤ 1000000 ∧ rp ≤ 200 := by omega
      have hK32 : 32 ≤ K ∧ K ≤ 64 := by omega
      have hrep := fun w' => sh_repeat ⟨#[0]⟩ rp w' (by omega) (by show 1 * rp ≤ _; omega)
      have HREP := Lib.hid hrep
      rw [← hK] at k0
      have HK := Lib.hid hK
      clear hK hkw8 hrr hq hp hp2 hrp hrS hn hS hD hN1 hrep
      go_upto_region 7 with fail
      go_quiet (fail)
      have HQ : Hid (Blk (wr.drewN nq) w.heap.size 62 (kb b) ∧ Blk (wr.drewN nq) (w.heap.size + 1) 103 (iv .u64 (startH b F 8)) ∧ Below w.heap.size w (wr.drewN nq)) := Lib.hid ⟨hr.out.1.drew nq, hr.out.2.1.drew nq, below_drewN hr.out.2.2 nq⟩
      clear hr k0
      generalize wr.drewN nq = w2 at *
      go_upto_region 9 with (go_at_call 51; refine (hjoin.out _ HQ.out.2.2).mono ?_; rintro e w3 ⟨rfl, hb3⟩)
      have H3 := Lib.hid (And.intro (HQ.out.1.rw hb3) (And.intro (HQ.out.2.1.rw hb3) (Rw.out HQ.out.2.2 hb3)))
      clear HQ hb3
      have hr1 : Hid (1 + rp ≤ 300 ∧ (by8 m).size + (1 + rp) ≤ 2000000) := Lib.hid ⟨by omega, by omega⟩
      have hrs : Hid ((⟨(Lib.repeatL (ByteArray.data ⟨#[0]⟩).toList rp).toArray⟩ : ByteArray) = by8 (List.replicate rp 0)) := by
        refine Lib.hid ?_
        show (⟨(Lib.repeatL [0] rp).toArray⟩ : ByteArray) = _
        have := Lib.repeatL_replicate 0 1 rp
        rw [Nat.mul_one] at this
        rw [show ([0] : List UInt8) = List.replicate 1 0 from rfl, this]
        rfl
      have hsz2 := by8_size (List.replicate rp 0)
      rw [List.length_replicate] at hsz2
      go_upto_region 12 with (go_at_call 53; rw [e4]; refine (HREP.out _).mono ?_; rw [hrs.out]; rintro e w4 ⟨rfl, hb4⟩)
      obtain ⟨P1, hP1⟩ : ∃ P1, P1 = m ++ 128 :: List.replicate rp 0 := ⟨_, rfl⟩
      rw [show by8 m ++ ({ data := #[128] } ++ by8 (List.replicate rp 0)) = by8 P1 by rw [hP1, show ({ data := #[128] } : ByteArray) = by8 [128] from rfl, by8_app, by8_app]; rfl]
      have hP1s : (by8 P1).size = n + 1 + rp := by rw [by8_size, hP1, List.length_append, List.length_cons, List.length_replicate, ← HN.out.1]; omega
      have HP1 := Lib.hid hP1
      clear hP1 hsz2 hrs e1 e2 e3 e4 e5 e6 eS eD hr1 HREP
      go_upto_region 13 with fail
      have Z4 : Hid (Blk w4 w.heap.size 62 (kb b) ∧ Blk w4 (w.heap.size + 1) 103 (iv .u64 (startH b F 8)) ∧ Below w.heap.size w w4) := Lib.hid ⟨H3.out.1.rw hb4, H3.out.2.1.rw hb4, Rw.out H3.out.2.2 hb4⟩
      refine wp_gen (fun wx => IsB w4.heap.size w4.heap.size (byv (tailL n 0)) wx ∧ Rw w4 wx ∧ w4.heap.size ≤ wx.heap.size) ⟨Lib.fresh_isBuilder _ _ _, below1 _ _, by simp⟩ ?_
      rintro w5 ⟨B5, R5, g5⟩
      have hc1 : w.heap.size + 1 < w4.heap.size := Z4.out.2.1.lt
      generalize w4.heap.size = c4 at *
      have H5 : Hid (IsB c4 c4 (byv (tailL n 0)) w5 ∧ c4 ≤ w5.heap.size ∧ Blk w5 w.heap.size 62 (kb b) ∧ Blk w5 (w.heap.size + 1) 103 (iv .u64 (startH b F 8)) ∧ Below w.heap.size w w5) := Lib.hid ⟨B5, g5, Z4.out.1.rw R5, Z4.out.2.1.rw R5, Rw.out Z4.out.2.2 R5⟩
      clear B5 R5 g5 Z4 H3 hb4
      go_wp2_with fail
      go_loopw [13] (fun v wr => ∃ j : Nat, v = .int .i64 (56 - 8 * (j : Int)) ∧ j ≤ 8 ∧ Hid (IsB c4 c4 (byv (tailL n j)) wr ∧ c4 ≤ wr.heap.size ∧ Blk wr w.heap.size 62 (kb b) ∧ Blk wr (w.heap.size + 1) 103 (iv .u64 (startH b F 8)) ∧ Below w.heap.size w wr)) (fun v _ => (intOf v + 8).toNat)
      case atStart => exact ⟨0, rfl, by omega, H5.out⟩
      case round =>
        obtain ⟨j, rfl, hj, hr⟩ := hrel
        clear H5
        rcases Nat.lt_or_ge j 8 with h8 | h8
        · obtain ⟨k, hk⟩ : ∃ k : Nat, k = 56 - 8 * j := ⟨_, rfl⟩
          have ek : 56 - 8 * (j : Int) = (k : Int) := by omega
          rw [ek]
          have hk56 : k ≤ 56 := by omega
          have hbl : Hid ((byv (tailL n j)).length + 1 ≤ 140737488355328) := Lib.hid (by rw [byv_len, tail_len]; omega)
          have HKJ := Lib.hid (And.intro hk ek)
          clear hk ek
          go_upto_region 15 with (go_at_call 54; refine (sh_wbyte c4 c4 _ _ _ hr.out.1 hbl.out hr.out.2.1).mono ?_; rintro e w6 ⟨rfl, hB6, hb6⟩)
          rw [lo8_val'] at hB6
          have HS : Hid (IsB c4 c4 (byv (tailL n (j + 1))) w6 ∧ c4 ≤ w6.heap.size ∧ Blk w6 w.heap.size 62 (kb b) ∧ Blk w6 (w.heap.size + 1) 103 (iv .u64 (startH b F 8)) ∧ Below w.heap.size w w6) :=
            Lib.hid ⟨.inr (by rw [tail_succ, ← HKJ.out.1, byv_app]; exact hB6), Nat.le_trans hr.out.2.1 hb6.size, hr.out.2.2.1.below hb6 (by omega), hr.out.2.2.2.1.below hb6 (by omega), hr.out.2.2.2.2.trans (hb6.mono (by omega))⟩
          have hk8 : (k : Int) - 8 = 56 - 8 * ((j + 1 : Nat) : Int) := by have := HKJ.out.2; omega
          clear hB6 hb6 hr
          go_wp2_with fail
          go_roundw
          case rel => exact ⟨j + 1, val_int (by omega), by omega, HS⟩
          case measure => simp [intOf]; omega
        · have hj8 : j = 8 := by omega
          rw [hj8] at hr ⊢
          clear hj8
          rw [show (56 : Int) - 8 * ((8 : Nat) : Int) = -8 from rfl]
          go_upto_region 17 with fail
          have htl := tail_len n 8
          have hts : (by8 (tailL n 8)).size = 8 := by rw [by8_size]; exact htl
          go_upto_region 18 with (go_at_call 55; refine (sh_string c4 c4 (tailL n 8) _ hr.out.1 hr.out.2.1).mono ?_; rintro e w7 ⟨rfl, hb7⟩; change Below c4 wr w7 at hb7)
          obtain ⟨P, hP⟩ : ∃ P, P = padded b m := ⟨_, rfl⟩
          obtain ⟨NB, hNB⟩ : ∃ NB, NB = P.length / S := ⟨_, rfl⟩
          have hPl : P.length = S * NB := by
            have h1 := pad_full b m.length
            rw [← padded_len, ← hP] at h1
            rw [hNB, HN.out.2.1, HK.out]
            have := Nat.div_add_mod P.length (2 * kw b)
            omega
          have hPn : P.length ≤ 1000400 := by
            have h2 := padded_len b m
            rw [← hP, hpad.out.1, ← HK.out, ← HN.out.1] at h2
            omega
          rw [show by8 P1 ++ ({ data := (tailL n 8).toArray } : ByteArray) = by8 P by
            show by8 P1 ++ by8 (tailL n 8) = _
            rw [by8_app, hP, HP1.out, hpad.out.2, HN.out.1]; rfl]
          have H7 : Hid (Blk w7 w.heap.size 62 (kb b) ∧ Blk w7 (w.heap.size + 1) 103 (iv .u64 (blkH b T (startH b F 8) P 0)) ∧ Below w.heap.size w w7) :=
            Lib.hid ⟨hr.out.2.2.1.below hb7 (by omega), hr.out.2.2.2.1.below hb7 (by omega), hr.out.2.2.2.2.trans (hb7.mono (by omega))⟩
          have HPP := Lib.hid (And.intro hP (And.intro hNB hPl))
          clear hP hNB htl hts hb7 hr hP1s HP1
          go_loopw [9] (fun v wr => ∃ j : Nat, v = .string (by8 (P.drop (S * j))) ∧ j ≤ NB ∧ Hid (Blk wr w.heap.size 62 (kb b) ∧ Blk wr (w.heap.size + 1) 103 (iv .u64 (blkH b T (startH b F 8) P j)) ∧ Below w.heap.size w wr)) (fun v _ => sLen8 v)
          case atStart => exact ⟨0, by simp, by omega, H7.out⟩
          case round =>
            obtain ⟨j, rfl, hj, hr⟩ := hrel
            clear H7
            obtain ⟨Q, hQ⟩ : ∃ Q, Q = P.drop (S * j) := ⟨_, rfl⟩
            have hQl : Q.length = S * NB - S * j := by rw [hQ, List.length_drop, hPl]
            have hQs := by8_size Q
            rw [← hQ]
            rcases Nat.lt_or_ge j NB with h9 | h9
            · have hsj : S * (j + 1) ≤ S * NB := Nat.mul_le_mul_left S h9
              rw [Nat.mul_succ] at hsj
              have hSQ : S ≤ Q.length := by omega
              have hQ2 : Q.length ≤ 1000400 := by omega
              have qtk := by8_take Q S
              have qdr := by8_drop Q S Q.length rfl
              have htk : (by8 (Q.take S)).size = 2 * kw b := by rw [by8_size, List.length_take, Nat.min_eq_left hSQ, HN.out.2.1, HK.out]
              have Hwr : Hid (Blk (wr.drewN 1) w.heap.size 62 (kb b) ∧ Blk (wr.drewN 1) (w.heap.size + 1) 103 (iv .u64 (blkH b T (startH b F 8) P j)) ∧ Below w.heap.size w (wr.drewN 1)) := Lib.hid ⟨hr.out.1.drew 1, hr.out.2.1.drew 1, below_drewN hr.out.2.2 1⟩
              have HTK := Lib.hid htk
              have HQ := Lib.hid (And.intro hQ hQl)
              clear hr htk hQ hQl hsj
              go_upto_region 20 with fail
              (refine wp_region_quiet_tail (C := fun w' => Rw (wr.drewN 1) w') 4 (by kernel_rfl) (by kernel_rfl) (Rw.refl _) ?_; simp only [List.take_succ_cons, List.take_zero, List.drop_succ_cons, List.drop_zero])
              ((with_reducible refine wpQuiet_step (fun K hK => ?_)); refine quiet_loadB (n := 14) (fun w' hw' => Hwr.out.1.rw hw') Tryz.underlying62 rfl (by kernel_rfl) (LK.out) (by first | rfl | simp [Region.wanted, yielded]) rfl (by go_simp) ?_; go_simp; (with_reducible apply hK); clear hK K)
              (repeat ((with_reducible refine wpQuiet_step (fun K hK => ?_)); refine quiet_autoE (by first | rfl | simp [Region.wanted, yielded]) ?_; apply Exists.intro; refine ⟨fun w' hw' => ?_, ?_⟩; (focus (go_simp; (first | done | rfl | ((try go_ints); (try simp only [↓IntWalk.iteOmega, true_and]); (try go_simp); (first | done | rfl))))); go_simp; (with_reducible apply hK); clear hK K))
              refine wpQuiet_nil ?_
              intro w8 hw8
              have B8 := Rw.out Hwr.out.2.2 hw8
              have G8 := Hwr.out.2.1.rw hw8
              have hmx := mix_ok b T F (blkH b T (startH b F 8) P j) (w.heap.size + 1) (by8 (Q.take S)) HTK.out w8 (HT.out.1.below B8) G8 (blk_len b T _ P (start_len b F 8) j) (by have := HT.out.2.1; omega)
              have K8 := Hwr.out.1.rw hw8
              have HMX := Lib.hid hmx
              have H8 := Lib.hid (And.intro K8 B8)
              clear hmx G8 B8 hw8 Hwr K8
              go_upto_region 19 with (go_at_call 56; refine HMX.out.mono ?_; rintro e w9 ⟨rfl, hB9, hK9⟩)
              have HS : Hid (Blk w9 w.heap.size 62 (kb b) ∧ Blk w9 (w.heap.size + 1) 103 (iv .u64 (blkH b T (startH b F 8) P (j + 1))) ∧ Below w.heap.size w w9) :=
                Lib.hid ⟨hK9.blk H8.out.1 (by omega), by
                  have e : blkH b T (startH b F 8) P (j + 1) = mixF b T (blkH b T (startH b F 8) P j) (Q.take S) := by
                    rw [blkH, HQ.out.1, HN.out.2.1, HK.out]
                  rw [e]; exact hB9, H8.out.2.trans (Keeps.below hK9 H8.out.2.size (fun k hk e => by omega))⟩
              have hdq : by8 (Q.drop S) = by8 (P.drop (S * (j + 1))) := by rw [HQ.out.1, List.drop_drop, Nat.mul_succ]
              have HDQ := Lib.hid hdq
              clear hB9 hK9 H8 HMX HTK qtk hdq
              go_wp2_with fail
              go_roundw
              case rel => exact ⟨j + 1, by rw [HDQ.out], by omega, HS⟩
              case measure =>
                show (by8 _).size < (by8 _).size
                rw [by8_size, by8_size, List.length_drop]
                omega
            · have hjn : j = NB := by omega
              have hQ0 : Q.length = 0 := by rw [hQl, hjn]; omega
              rw [hjn] at hr
              clear hjn
              obtain ⟨H, hH⟩ : ∃ H, H = blkH b T (startH b F 8) P NB := ⟨_, rfl⟩
              have hHl : H.length = 8 := by rw [hH]; exact blk_len b T _ P (start_len b F 8) NB
              rw [← hH] at hr
              have hout : sumF b T F m = outL b H := by
                unfold sumF
                rw [← HPP.out.1, hH, HPP.out.2.1, HN.out.2.1, HK.out]
              have HO := Lib.hid hout
              have HG : Hid (Blk wr w.heap.size 62 (kb b) ∧ Blk wr (w.heap.size + 1) 103 (iv .u64 H) ∧ Below w.heap.size w wr) := Lib.hid hr.out
              have LH : Hid ((iv .u64 H).length = 8) := by rw [iv_len]; exact hHl
              clear hH hout hr hQl hQ
              go_upto_region 21 with fail
              refine wp_gen (fun wx => Blk wx w.heap.size 62 (kb b) ∧ Blk wx (w.heap.size + 1) 103 (iv .u64 H) ∧ Below w.heap.size w wx) HG.out ?_
              intro w10 Z10
              have hc1 : w.heap.size + 1 < w10.heap.size := Z10.2.1.lt
              have H10 := Lib.hid Z10
              clear HG Z10
              go_upto_region 22 with fail
              refine wp_gen (fun wx => IsB w10.heap.size w10.heap.size (byv []) wx ∧ w10.heap.size ≤ wx.heap.size ∧ Rw w10 wx) ⟨Lib.fresh_isBuilder _ _ _, by simp, below1 _ _⟩ ?_
              rintro w11 ⟨B11, g11, R11⟩
              generalize w10.heap.size = c5 at *
              have H11 : Hid (IsB c5 c5 (byv ((H.take 0).map fun x => wordB b x (kw b / 8)).flatten) w11 ∧ c5 ≤ w11.heap.size ∧ Blk w11 w.heap.size 62 (kb b) ∧ Blk w11 (w.heap.size + 1) 103 (iv .u64 H) ∧ Below w.heap.size w w11) := Lib.hid ⟨B11, g11, H10.out.1.rw R11, H10.out.2.1.rw R11, Rw.out H10.out.2.2 R11⟩
              clear B11 g11 R11 H10
              go_upto_region 23 with (refine load_blk H11.out.2.2.2.1 Tryz.underlying103 rfl arr8_size LH.out rfl rfl rfl ?_)
              obtain ⟨V, hV⟩ : ∃ V, V = K / 8 := ⟨_, rfl⟩
              have hV8 : V ≤ 8 := by omega
              have HV8 : Hid (K = 8 * V) := Lib.hid (by have := HK.out; have hk : kw b = 32 ∨ kw b = 64 := by cases b <;> decide
                                                        omega)
              have hVk : Hid (kw b / 8 = V) := Lib.hid (by rw [hV, HK.out])
              rw [hVk.out] at H11
              clear hV
              go_loopw [83] (fun v wr => ∃ q : Nat, v = .int .i64 q ∧ q ≤ 8 ∧ Hid (IsB c5 c5 (byv ((H.take q).map fun x => wordB b x V).flatten) wr ∧ c5 ≤ wr.heap.size ∧ Blk wr w.heap.size 62 (kb b) ∧ Blk wr (w.heap.size + 1) 103 (iv .u64 H) ∧ Below w.heap.size w wr)) (fun v _ => 8 - (intOf v).toNat)
              case atStart => exact ⟨0, rfl, by omega, H11.out⟩
              case round =>
                obtain ⟨q, rfl, hq, hr⟩ := hrel
                clear H11
                rcases Nat.lt_or_ge q 8 with h8 | h8
                · have gi := fun w' => run_index_iv (k := .u64) (l := H) Tryz.underlying103 Tryz.underlying67 (by kernel_rfl) hHl q h8 w'
                  have hfl : Hid (((H.take (q + 1)).map fun x => wordB b x V).flatten = ((H.take q).map fun x => wordB b x V).flatten ++ wordB b (H.getD q 0) V) := Lib.hid (by rw [List.take_add_one, List.getElem?_eq_getElem (by omega), List.map_append, List.flatten_append, List.getD_eq_getElem?_getD, List.getElem?_eq_getElem (by omega)]; simp)
                  have hPl2 : (((H.take q).map fun x => wordB b x V).flatten).length ≤ 64 := by
                    have := flat_len b V H q
                    have : q * V ≤ 8 * 8 := Nat.mul_le_mul (by omega) (by omega)
                    omega
                  generalize H.getD q 0 = x at *
                  generalize ((H.take q).map fun x => wordB b x V).flatten = Pq at *
                  have k0 : wr.cell? ⟨w.heap.size, 0, none⟩ = some (.int .i64 (K : Nat)) := by rw [HK.out]; exact kind_cell hr.out.2.2.1
                  go_upto_region 25 with fail
                  go_wp2_with fail
                  rw [show decide ((q : Int) < 8) = true from decide_eq_true (by omega)]
                  go_loopw [17] (fun v wr => ∃ j : Nat, v = .int .i64 ((K : Int) - 8 - 8 * (j : Int)) ∧ j ≤ V ∧ Hid (IsB c5 c5 (byv (Pq ++ wordB b x j)) wr ∧ c5 ≤ wr.heap.size ∧ Blk wr w.heap.size 62 (kb b) ∧ Blk wr (w.heap.size + 1) 103 (iv .u64 H) ∧ Below w.heap.size w wr)) (fun v _ => (intOf v + 8).toNat)
                  case atStart => exact ⟨0, val_int (by omega), by omega, by show Hid (IsB c5 c5 (byv (Pq ++ [])) _ ∧ _); rw [List.append_nil]; exact hr.out⟩
                  case round =>
                    obtain ⟨j, rfl, hj, hs⟩ := hrel
                    clear hr k0
                    rcases Nat.lt_or_ge j V with h9 | h9
                    · obtain ⟨k, hk⟩ : ∃ k : Nat, k = K - 8 - 8 * j := ⟨_, rfl⟩
                      have ek : (K : Int) - 8 - 8 * (j : Int) = (k : Int) := by have := HV8.out; omega
                      rw [ek]
                      have hk56 : k ≤ 56 := by omega
                      have hbl : Hid ((byv (Pq ++ wordB b x j)).length + 1 ≤ 140737488355328) := Lib.hid (by rw [byv_len, List.length_append, word_len]; omega)
                      have HKJ := Lib.hid (And.intro hk ek)
                      clear hk ek
                      go_upto_region 27 with (go_at_call 54; refine (sh_wbyte c5 c5 _ _ _ hs.out.1 hbl.out hs.out.2.1).mono ?_; rintro e w12 ⟨rfl, hB6, hb6⟩)
                      rw [lo8_val'] at hB6
                      have HS : Hid (IsB c5 c5 (byv (Pq ++ wordB b x (j + 1))) w12 ∧ c5 ≤ w12.heap.size ∧ Blk w12 w.heap.size 62 (kb b) ∧ Blk w12 (w.heap.size + 1) 103 (iv .u64 H) ∧ Below w.heap.size w w12) :=
                        Lib.hid ⟨.inr (by rw [word_succ, ← HK.out, ← HKJ.out.1, ← List.append_assoc, byv_app]; exact hB6), Nat.le_trans hs.out.2.1 hb6.size, hs.out.2.2.1.below hb6 (by omega), hs.out.2.2.2.1.below hb6 (by omega), hs.out.2.2.2.2.trans (hb6.mono (by omega))⟩
                      have hk8 : (k : Int) = (K : Int) - 8 - 8 * (j : Int) := HKJ.out.2.symm
                      clear hB6 hb6 hs
                      have HK8 := Lib.hid hk8
                      clear hk8
                      go_wp2_with fail
                      go_roundw
                      case rel => exact ⟨j + 1, val_int (by have := HK8.out; omega), by omega, HS⟩
                      case measure => simp [intOf]; omega
                    · have hjV : j = V := by omega
                      rw [hjV] at hs
                      have eV : (K : Int) - 8 - 8 * (j : Int) = -8 := by have := HV8.out; omega
                      rw [eV]
                      clear hjV eV
                      go_wp2_with fail
                      go_roundw
                      case rel => exact ⟨q + 1, by go_num, by omega, by rw [hfl.out]; exact hs⟩
                      case measure => simp [intOf]; omega
                · have hq8 : q = 8 := by omega
                  rw [hq8, show H.take 8 = H from List.take_of_length_le (by omega)] at hr
                  clear hq8
                  go_wp2_with (go_at_call 55; refine (sh_string c5 c5 _ _ hr.out.1 hr.out.2.1).mono ?_; rintro e w13 ⟨rfl, hb13⟩; change Below c5 wr w13 at hb13)
                  go_ret
                  refine ⟨?_, hr.out.2.2.2.2.trans (hb13.mono (by omega))⟩
                  rw [HO.out]
                  unfold outL
                  rw [hVk.out]
                  rfl
end Go.Proofs.YtkhdhiddhnmdkaaGreatDoor
