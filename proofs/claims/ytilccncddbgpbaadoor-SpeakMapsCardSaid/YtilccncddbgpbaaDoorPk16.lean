/-
The document's numbers in digits of 16 bits: of bytes, and their bytes.
The document's numbers: without their lowest bits.
-/
import Derived.Deep.DeepCutAuto
import Derived.Outline
import Derived.Test.YtilccncddbgpbaaDoorPk15
namespace Go.Proofs.YtilccncddbgpbaaDoor
open Go.RowKit

/-- the number that bytes write, the lowest first -/
def le8 : List UInt8 → Nat
  | [] => 0
  | b :: r => b.toNat + 256 * le8 r
theorem le8_append (a b : List UInt8) : le8 (a ++ b) = le8 a + 256 ^ a.length * le8 b := by
  induction a with
  | nil => simp [le8]
  | cons d r ih =>
    simp only [List.cons_append, le8, ih, List.length_cons, Nat.pow_succ]
    rw [Nat.mul_add, ← Nat.mul_assoc, Nat.mul_comm 256 (256 ^ r.length), Nat.add_assoc]
theorem le8_lt (l : List UInt8) : le8 l < 256 ^ l.length := by
  induction l with
  | nil => simp [le8]
  | cons d r ih =>
    have hd := d.toNat_lt
    simp only [le8, List.length_cons, Nat.pow_succ]
    omega
theorem le8_take_succ (l : List UInt8) (k : Nat) (h : k < l.length) : le8 (l.take (k + 1)) = le8 (l.take k) + 256 ^ k * (l.getD k 0).toNat := by
  rw [List.take_succ_eq_append_getElem h, le8_append, List.length_take, Nat.min_eq_left (Nat.le_of_lt h)]
  simp [le8, h]
theorem pow256 (k : Nat) : 256 ^ (2 * k) = 65536 ^ k := by rw [Nat.pow_mul]
theorem bv_digit {l : List Nat} (h : Sm l) (k : Nat) : bv l / 65536 ^ k % 65536 = l.getD k 0 := by
  rcases Nat.lt_or_ge k l.length with hk | hk
  · have e := bv_take_drop l k (by omega)
    rw [drop_getD hk, bv_cons] at e
    have h1 := bv_lt (h.take k)
    rw [List.length_take, Nat.min_eq_left (by omega)] at h1
    have h2 := h.getD k
    rw [e, Nat.add_comm, Nat.mul_add_div (Nat.pow_pos (by decide)), Nat.div_eq_of_lt h1]
    omega
  · rw [List.getD_eq_getElem?_getD, List.getElem?_eq_none hk, Nat.div_eq_of_lt]
    · rfl
    · exact Nat.lt_of_lt_of_le (bv_lt h) (Nat.pow_le_pow_right (by decide) hk)
/-- the lowest n bytes of a number -/
def leBytes (N n : Nat) : List UInt8 := (List.range n).map fun j => UInt8.ofNat (N / 256 ^ j % 256)
theorem byte_even {l : List Nat} (h : Sm l) (k : Nat) : l.getD k 0 % 256 = bv l / 256 ^ (2 * k) % 256 := by
  rw [← bv_digit h, pow256]; omega
theorem byte_odd {l : List Nat} (h : Sm l) (k : Nat) : l.getD k 0 / 256 % 256 = bv l / 256 ^ (2 * k + 1) % 256 := by
  rw [← bv_digit h, Nat.pow_succ, pow256, ← Nat.div_div_eq_div_mul]; omega

theorem byte_at (s : ByteArray) (i : Nat) (h : i < s.size) : (s.data.toList.getD i 0).toNat = (s[i]).toNat := by
  have h' : i < s.data.toList.length := by rw [Array.length_toList]; exact h
  rw [List.getD_eq_getElem?_getD, List.getElem?_eq_getElem h', Option.getD_some]
  rfl
theorem own_form {w : World} {base : Nat} {e : TypeId} {size : Nat} {v : Value} {n : Nat} {xs : List Value} (h : w.ownsRow base e size v n xs) (hn : 0 < n) : ∃ g cap, v = .slice (some ⟨g, 0, none⟩) n cap ∧ base ≤ g := by
  rcases h.2 with ⟨_, h0⟩ | ⟨g, cap, cur, hv, hb, _⟩
  · omega
  · exact ⟨g, cap, hv, hb⟩
/-! ### Of -/
theorem of_even {lo : List Nat} {l : List UInt8} {i b : Nat} (hev : i % 2 = 0) (hl : lo.length = (i + 1) / 2) (hk : i < l.length) (h : bv lo = le8 (l.take i)) (hb : (l.getD i 0).toNat = b) : bv (lo ++ [b]) = le8 (l.take (i + 1)) := by
  subst hb
  rw [bv_snoc, le8_take_succ l _ hk, h, hl, ← pow256, show 2 * ((i + 1) / 2) = i from by omega]
theorem of_small {lo : List Nat} {l : List UInt8} {i : Nat} (hod : i % 2 = 1) (hl : lo.length = (i + 1) / 2) (hk : i < l.length) (h : bv lo = le8 (l.take i)) : lo.getD (i / 2) 0 < 256 := by
  have h1 := le8_lt (l.take i)
  rw [List.length_take, Nat.min_eq_left (by omega), ← h] at h1
  have e : 256 ^ i = 65536 ^ (i / 2) * 256 := by
    rw [← pow256, ← Nat.pow_succ]; congr 1; omega
  rw [e] at h1
  have h2 := bv_take_succ lo (i / 2) (by omega)
  rw [List.take_of_length_le (by omega)] at h2
  have h3 : 65536 ^ (i / 2) * lo.getD (i / 2) 0 < 65536 ^ (i / 2) * 256 := by omega
  exact Nat.lt_of_mul_lt_mul_left h3
theorem of_odd {lo : List Nat} {l : List UInt8} {i b : Nat} (hod : i % 2 = 1) (hl : lo.length = (i + 1) / 2) (hk : i < l.length) (h : bv lo = le8 (l.take i)) (hb : (l.getD i 0).toNat = b) :
    bv (lo.set (i / 2) (lo.getD (i / 2) 0 + 256 * b)) = le8 (l.take (i + 1)) := by
  subst hb
  have hs := bv_set lo (i / 2) (lo.getD (i / 2) 0 + 256 * (l.getD i 0).toNat) (by omega)
  have e : 256 ^ i = 65536 ^ (i / 2) * 256 := by
    rw [← pow256, ← Nat.pow_succ]; congr 1; omega
  rw [le8_take_succ l _ hk, ← h, e]
  rw [Nat.mul_add, ← Nat.mul_assoc] at hs
  omega

/-! ### Bytes -/
/-- the values of bytes -/
def bvals (l : List UInt8) : List Value := l.map fun b => Value.int .u8 (b.toNat : Nat)
theorem bvals_snoc (l : List UInt8) (b : UInt8) : bvals (l ++ [b]) = bvals l ++ [.int .u8 b.toNat] := by simp [bvals]
theorem leBytes_succ (N n : Nat) : leBytes N (n + 1) = leBytes N n ++ [UInt8.ofNat (N / 256 ^ n % 256)] := by simp [leBytes, List.range_succ]
theorem leBytes_length (N n : Nat) : (leBytes N n).length = n := by simp [leBytes]
theorem u8_of (n : Nat) : (UInt8.ofNat (n % 256)).toNat = n % 256 := by simp
theorem byteInfo : (Tryd.prog.info? 5).map (fun i => (i.zero, i.size, i.bytes)) = some (some (.int .u8 0), 1, 1) := by kernel_rfl

/-- a row of bytes of the call's own, as a string -/
theorem conv_bytes {P : Program} {w : World} {base src e dst : TypeId} {v : Value} {n : Nat} {bs : List UInt8} (hs : P.underlying src = some (.slice e)) (he : P.underlying e = some (.int .u8)) (hd : P.underlying dst = some .string)
    (hn : bs.length = n) (h : w.ownsRow base e 1 v n (bvals bs)) : (convert src dst v).run P w = .ok (.string ⟨bs.toArray⟩) w := by
  rcases Nat.eq_zero_or_pos n with h0 | h0
  · have hb : bs = [] := List.length_eq_zero_iff.1 (by omega)
    subst hb
    rcases h.2 with ⟨rfl, _⟩ | ⟨g, cap, cur, rfl, _⟩
    · exact run_convert_bytes_nil w src e hs he 0 0 dst hd
    · exact run_convert_bytes_arg w src e hs he g 0 n cap [] (by simpa using h0.symm) (fun i hi => by omega) dst hd
  · obtain ⟨g, cap, rfl, _⟩ := own_form h h0
    have := run_convert_bytes_arg (P := P) w src e hs he g 0 n cap (bs.map fun b => (b.toNat : Int)) (by simpa using hn) (fun i hi => ?_) dst hd
    · rw [this]
      have e1 : strOfNums (bs.map fun b => (b.toNat : Int)) = ⟨bs.toArray⟩ := by
        unfold strOfNums
        congr 2
        rw [List.map_map]
        conv => rhs; rw [← List.map_id bs]
        apply List.map_congr_left
        intro b _
        simp
      rw [e1]
    · rw [Nat.zero_add, h.cellAt i (by omega)]
      have hi' : i < bs.length := by omega
      simp [bvals, List.getElem?_eq_getElem hi', List.getD_eq_getElem?_getD]

end Go.Proofs.YtilccncddbgpbaaDoor

namespace Go.Proofs.YtilccncddbgpbaaDoor
open Go.RowKit

theorem dig_len {l : List Nat} {N : Nat} (h : Can l) (hb : bv l < 65536 ^ N) : l.length ≤ N := by
  rcases Nat.lt_or_ge N l.length with hlt | hge
  · exfalso
    have h1 := h.lower (fun e => by rw [e] at hlt; exact Nat.not_lt_zero _ hlt)
    have h2 : 65536 ^ N ≤ 65536 ^ (l.length - 1) := Nat.pow_le_pow_right (by decide) (by omega)
    omega
  · exact hge
theorem num_digs {w : World} {v : Value} {n N : Nat} (h : Num w v n) (hn : n < 65536 ^ N) : ∃ l, DigAt w v l ∧ Can l ∧ bv l = n ∧ l.length ≤ N := by
  obtain ⟨l, hd, hc, hb⟩ := h
  exact ⟨l, hd, hc, hb, dig_len hc (by rw [hb]; exact hn)⟩
def hdig (l : List Nat) (r i : Nat) : Nat := (l.getD i 0 + l.getD (i + 1) 0 * 65536) / 2 ^ r % 65536
def hdigs (l : List Nat) (r n : Nat) : List Nat := (List.range n).map (hdig l r)
theorem hdigs_succ (l : List Nat) (r n : Nat) : hdigs l r (n + 1) = hdigs l r n ++ [hdig l r n] := by simp [hdigs, List.range_succ]
theorem hdigs_len (l : List Nat) (r n : Nat) : (hdigs l r n).length = n := by simp [hdigs]
theorem hdigs_sm (l : List Nat) (r n : Nat) : Sm (hdigs l r n) := fun d hd => by
  obtain ⟨i, _, rfl⟩ := List.mem_map.1 hd
  exact Nat.mod_lt _ (by decide)
theorem hdigs_cons (d : Nat) (t : List Nat) (r n : Nat) : hdigs (d :: t) r (n + 1) = hdig (d :: t) r 0 :: hdigs t r n := by
  unfold hdigs
  rw [List.range_succ_eq_map, List.map_cons, List.map_map]
  rfl
theorem half_step (r : Nat) (hr : r < 16) (d t0 B T : Nat) (hd : d < 65536) (_h0 : t0 < 65536) (hT : T = t0 + 65536 * B) : (d + t0 * 65536) / 2 ^ r % 65536 + 65536 * (T / 2 ^ r) = (d + 65536 * T) / 2 ^ r := by
  subst hT
  match r, hr with
  | 0, _ => simp; omega
  | 1, _ => simp; omega
  | 2, _ => simp; omega
  | 3, _ => simp; omega
  | 4, _ => simp; omega
  | 5, _ => simp; omega
  | 6, _ => simp; omega
  | 7, _ => simp; omega
  | 8, _ => simp; omega
  | 9, _ => simp; omega
  | 10, _ => simp; omega
  | 11, _ => simp; omega
  | 12, _ => simp; omega
  | 13, _ => simp; omega
  | 14, _ => simp; omega
  | 15, _ => simp; omega
  | n + 16, h => omega
theorem bv_half (r : Nat) (hr : r < 16) : ∀ l : List Nat, Sm l → bv (hdigs l r l.length) = bv l / 2 ^ r
  | [], _ => by simp [hdigs]
  | d :: t, hs => by
    have hd := hs d (by simp)
    have ht : Sm t := fun x hx => hs x (by simp [hx])
    rw [List.length_cons, hdigs_cons, bv_cons, bv_half r hr t ht, bv_cons]
    have h0 := ht.getD 0
    cases t with
    | nil => exact half_step r hr d 0 0 0 hd (by decide) rfl
    | cons t0 t' => exact half_step r hr d t0 (bv t') _ hd h0 rfl
theorem getD_drop (l : List Nat) (q i : Nat) : (l.drop q).getD i 0 = l.getD (q + i) 0 := by
  rw [List.getD_eq_getElem?_getD, List.getElem?_drop, List.getD_eq_getElem?_getD]
theorem bv_drop {l : List Nat} (hs : Sm l) (q : Nat) (h : q ≤ l.length) : bv (l.drop q) = bv l / 65536 ^ q := by
  have h1 := bv_take_drop l q h
  have h2 := bv_lt (hs.take q)
  rw [List.length_take, Nat.min_eq_left h] at h2
  rw [h1, Nat.add_mul_div_left _ _ (Nat.pow_pos (by decide)), Nat.div_eq_of_lt h2, Nat.zero_add]
theorem half_val {l : List Nat} (hs : Sm l) (n : Nat) (h : n / 16 < l.length) : bv (hdigs (l.drop (n / 16)) (n % 16) (l.length - n / 16)) = bv l / 2 ^ n := by
  have e := bv_half (n % 16) (Nat.mod_lt _ (by decide)) (l.drop (n / 16)) (hs.drop _)
  rw [List.length_drop] at e
  rw [e, bv_drop hs _ (Nat.le_of_lt h), Nat.div_div_eq_div_mul, show (65536 : Nat) = 2 ^ 16 from rfl, ← Nat.pow_mul, ← Nat.pow_add, Nat.div_add_mod]

end Go.Proofs.YtilccncddbgpbaaDoor
