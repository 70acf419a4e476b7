/-
The document's numbers in digits of 16 bits: powers of two, products, halves.
The document's numbers in digits of 16 bits: of bytes, and their bytes.
The document's numbers: without their lowest bits.
Prime numbers: Fermat's little theorem, Pocklington's test, and two large primes.
-/
import Derived.Deep.DeepCutAuto
import Derived.Outline
import Derived.Test.YtkhdhiddhnmdkaaGreatDoorPk08
namespace Go.Proofs.YtkhdhiddhnmdkaaGreatDoor
open Go.RowKit

theorem made_zero (n : Nat) : (madeCells #[Value.int .i64 0] n).toList = dvals (List.replicate n 0) := by
  apply List.ext_getElem?
  intro i
  rcases Nat.lt_or_ge i n with h | h
  · simp [madeCells, dvals, h, Nat.mod_one]
  · simp [madeCells, dvals, h]
theorem dvals_set (l : List Nat) (j d : Nat) : dvals (l.set j d) = (dvals l).set j (.int .i64 d) := by simp [dvals, List.map_set]
theorem dvals_get (l : List Nat) (j : Nat) (h : j < l.length) : (dvals l)[j]? = some (.int .i64 (l.getD j 0 : Nat)) := by
  simp [dvals, List.getElem?_eq_getElem h]

theorem power_digits (n : Nat) : Can ((List.replicate (n / 16 + 1) 0).set (n / 16) (2 ^ (n % 16))) ∧ bv ((List.replicate (n / 16 + 1) 0).set (n / 16) (2 ^ (n % 16))) = 2 ^ n := by
  have h2 : 2 ^ (n % 16) < 65536 := Nat.lt_of_lt_of_le (Nat.pow_lt_pow_right (by decide) (Nat.mod_lt n (by decide) : n % 16 < 16)) (by decide)
  have hp : 0 < 2 ^ (n % 16) := Nat.pow_pos (by decide)
  refine ⟨⟨Sm.set (fun d hd => by rw [(List.mem_replicate.1 hd).2]; decide) _ _ h2, fun d hd => ?_⟩, ?_⟩
  · rw [List.getLast?_eq_getElem?] at hd
    simp at hd
    omega
  · have h := bv_set (List.replicate (n / 16 + 1) 0) (n / 16) (2 ^ (n % 16)) (by simp)
    rw [bv_replicate] at h
    have e : (List.replicate (n / 16 + 1) 0).getD (n / 16) 0 = 0 := by simp [List.getD_eq_getElem?_getD]
    rw [e, Nat.mul_zero, Nat.add_zero, Nat.zero_add] at h
    rw [h, show (65536 : Nat) = 2 ^ 16 from rfl, ← Nat.pow_mul, ← Nat.pow_add, Nat.div_add_mod]

theorem own_drewN {w : World} {base : Nat} {e : TypeId} {size : Nat} {v : Value} {n : Nat} {xs : List Value} (h : w.ownsRow base e size v n xs) (k : Nat) : (w.drewN k).ownsRow base e size v n xs := h
/-! ### Mul -/
theorem mul_inner {lo : List Nat} {i j c x y T B p : Nat} (hk : i + j < lo.length) (h : bv lo + c * 65536 ^ (i + j) = T + 65536 ^ i * (x * B)) (hp : p = 65536 ^ j * y) :
    bv (lo.set (i + j) ((lo.getD (i + j) 0 + x * y + c) % 65536)) + (lo.getD (i + j) 0 + x * y + c) / 65536 * 65536 ^ (i + (j + 1)) = T + 65536 ^ i * (x * (B + p)) := by
  have hs := bv_set lo (i + j) ((lo.getD (i + j) 0 + x * y + c) % 65536) hk
  have hm := Nat.mod_add_div (lo.getD (i + j) 0 + x * y + c) 65536
  generalize lo.getD (i + j) 0 = d at *
  generalize (d + x * y + c) % 65536 = r at *
  generalize (d + x * y + c) / 65536 = q at *
  subst hp
  have e1 : 65536 ^ (i + (j + 1)) = 65536 ^ (i + j) * 65536 := by rw [← Nat.add_assoc, Nat.pow_succ]
  have e2 : 65536 ^ i * (x * (B + 65536 ^ j * y)) = 65536 ^ i * (x * B) + 65536 ^ (i + j) * (x * y) := by
    rw [Nat.mul_add, Nat.mul_add, Nat.pow_add]
    congr 1
    rw [Nat.mul_assoc, ← Nat.mul_assoc x, Nat.mul_comm x, Nat.mul_assoc]
  rw [e1, e2]
  generalize 65536 ^ (i + j) = W at *
  generalize 65536 ^ i * (x * B) = V at *
  have e3 : q * (W * 65536) = W * (65536 * q) := by rw [Nat.mul_comm q, Nat.mul_assoc]
  have e4 : W * r + W * (65536 * q) = W * d + W * (x * y) + W * c := by rw [← Nat.mul_add, hm, Nat.mul_add, Nat.mul_add]
  rw [e3]
  rw [Nat.mul_comm c W] at h
  omega
theorem mul_carry {lo : List Nat} {k c T : Nat} (hk : k < lo.length) (h : bv lo + c * 65536 ^ k = T) :
    bv (lo.set k ((lo.getD k 0 + c) % 65536)) + (lo.getD k 0 + c) / 65536 * 65536 ^ (k + 1) = T := by
  have hs := bv_set lo k ((lo.getD k 0 + c) % 65536) hk
  have hm := Nat.mod_add_div (lo.getD k 0 + c) 65536
  generalize lo.getD k 0 = d at *
  generalize (d + c) % 65536 = r at *
  generalize (d + c) / 65536 = q at *
  rw [Nat.pow_succ]
  generalize 65536 ^ k = W at *
  have e3 : q * (W * 65536) = W * (65536 * q) := by rw [Nat.mul_comm q, Nat.mul_assoc]
  have e4 : W * r + W * (65536 * q) = W * d + W * c := by rw [← Nat.mul_add, hm, Nat.mul_add]
  rw [e3]
  rw [Nat.mul_comm c W] at h
  omega
theorem mul_room {la lb lo : List Nat} {i k c : Nat} (hsa : Sm la) (hsb : Sm lb) (h : bv lo + c * 65536 ^ k = bv (la.take (i + 1)) * bv lb) (hc : 0 < c) (hi : i < la.length) : k < la.length + lb.length := by
  have h1 := bv_lt (hsa.take (i + 1))
  have h2 := bv_lt hsb
  rw [List.length_take, Nat.min_eq_left (by omega)] at h1
  have h3 : 65536 ^ k ≤ c * 65536 ^ k := Nat.le_mul_of_pos_left _ hc
  have h4 : bv (la.take (i + 1)) * bv lb < 65536 ^ (i + 1) * 65536 ^ lb.length := Nat.mul_lt_mul_of_lt_of_le h1 (Nat.le_of_lt h2) (Nat.pow_pos (by decide))
  rw [← Nat.pow_add] at h4
  have h5 : 65536 ^ k < 65536 ^ (i + 1 + lb.length) := by omega
  have := (Nat.pow_lt_pow_iff_right (by decide)).1 h5
  omega

end Go.Proofs.YtkhdhiddhnmdkaaGreatDoor

namespace Go.Proofs.YtkhdhiddhnmdkaaGreatDoor
open Go.RowKit

/-- the number that bytes write, the lowest first -/
def le8 : List UInt8 → Nat
  | [] => 0
  | b :: r => b.toNat + 256 * le8 r
theorem le8_append (a b : List UInt8) : le8 (a ++ b) = le8 a + 256 ^ a.length * le8 b := by
  induction a with
  | nil => simp [le8]
  | cons d r ih =>
    simp only [List.cons_append, le8, ih, List.length_cons, Nat.pow_succ]
    rw [Nat.mul_add, ← Nat.mul_assoc, Nat.mul_comm 256 (256 ^ r.length), Nat.add_assoc]
theorem le8_lt (l : List UInt8) : le8 l < 256 ^ l.length := by
  induction l with
  | nil => simp [le8]
  | cons d r ih =>
    have hd := d.toNat_lt
    simp only [le8, List.length_cons, Nat.pow_succ]
    omega
theorem le8_take_succ (l : List UInt8) (k : Nat) (h : k < l.length) : le8 (l.take (k + 1)) = le8 (l.take k) + 256 ^ k * (l.getD k 0).toNat := by
  rw [List.take_succ_eq_append_getElem h, le8_append, List.length_take, Nat.min_eq_left (Nat.le_of_lt h)]
  simp [le8, h]
theorem pow256 (k : Nat) : 256 ^ (2 * k) = 65536 ^ k := by rw [Nat.pow_mul]
theorem bv_digit {l : List Nat} (h : Sm l) (k : Nat) : bv l / 65536 ^ k % 65536 = l.getD k 0 := by
  rcases Nat.lt_or_ge k l.length with hk | hk
  · have e := bv_take_drop l k (by omega)
    rw [drop_getD hk, bv_cons] at e
    have h1 := bv_lt (h.take k)
    rw [List.length_take, Nat.min_eq_left (by omega)] at h1
    have h2 := h.getD k
    rw [e, Nat.add_comm, Nat.mul_add_div (Nat.pow_pos (by decide)), Nat.div_eq_of_lt h1]
    omega
  · rw [List.getD_eq_getElem?_getD, List.getElem?_eq_none hk, Nat.div_eq_of_lt]
    · rfl
    · exact Nat.lt_of_lt_of_le (bv_lt h) (Nat.pow_le_pow_right (by decide) hk)
/-- the lowest n bytes of a number -/
def leBytes (N n : Nat) : List UInt8 := (List.range n).map fun j => UInt8.ofNat (N / 256 ^ j % 256)
theorem byte_even {l : List Nat} (h : Sm l) (k : Nat) : l.getD k 0 % 256 = bv l / 256 ^ (2 * k) % 256 := by
  rw [← bv_digit h, pow256]; omega
theorem byte_odd {l : List Nat} (h : Sm l) (k : Nat) : l.getD k 0 / 256 % 256 = bv l / 256 ^ (2 * k + 1) % 256 := by
  rw [← bv_digit h, Nat.pow_succ, pow256, ← Nat.div_div_eq_div_mul]; omega

theorem byte_at (s : ByteArray) (i : Nat) (h : i < s.size) : (s.data.toList.getD i 0).toNat = (s[i]).toNat := by
  have h' : i < s.data.toList.length := by rw [Array.length_toList]; exact h
  rw [List.getD_eq_getElem?_getD, List.getElem?_eq_getElem h', Option.getD_some]
  rfl
theorem own_form {w : World} {base : Nat} {e : TypeId} {size : Nat} {v : Value} {n : Nat} {xs : List Value} (h : w.ownsRow base e size v n xs) (hn : 0 < n) : ∃ g cap, v = .slice (some ⟨g, 0, none⟩) n cap ∧ base ≤ g := by
  rcases h.2 with ⟨_, h0⟩ | ⟨g, cap, cur, hv, hb, _⟩
  · omega
  · exact ⟨g, cap, hv, hb⟩
/-! ### Of -/
theorem of_even {lo : List Nat} {l : List UInt8} {i b : Nat} (hev : i % 2 = 0) (hl : lo.length = (i + 1) / 2) (hk : i < l.length) (h : bv lo = le8 (l.take i)) (hb : (l.getD i 0).toNat = b) : bv (lo ++ [b]) = le8 (l.take (i + 1)) := by
  subst hb
  rw [bv_snoc, le8_take_succ l _ hk, h, hl, ← pow256, show 2 * ((i + 1) / 2) = i from by omega]
theorem of_small {lo : List Nat} {l : List UInt8} {i : Nat} (hod : i % 2 = 1) (hl : lo.length = (i + 1) / 2) (hk : i < l.length) (h : bv lo = le8 (l.take i)) : lo.getD (i / 2) 0 < 256 := by
  have h1 := le8_lt (l.take i)
  rw [List.length_take, Nat.min_eq_left (by omega), ← h] at h1
  have e : 256 ^ i = 65536 ^ (i / 2) * 256 := by
    rw [← pow256, ← Nat.pow_succ]; congr 1; omega
  rw [e] at h1
  have h2 := bv_take_succ lo (i / 2) (by omega)
  rw [List.take_of_length_le (by omega)] at h2
  have h3 : 65536 ^ (i / 2) * lo.getD (i / 2) 0 < 65536 ^ (i / 2) * 256 := by omega
  exact Nat.lt_of_mul_lt_mul_left h3
theorem of_odd {lo : List Nat} {l : List UInt8} {i b : Nat} (hod : i % 2 = 1) (hl : lo.length = (i + 1) / 2) (hk : i < l.length) (h : bv lo = le8 (l.take i)) (hb : (l.getD i 0).toNat = b) :
    bv (lo.set (i / 2) (lo.getD (i / 2) 0 + 256 * b)) = le8 (l.take (i + 1)) := by
  subst hb
  have hs := bv_set lo (i / 2) (lo.getD (i / 2) 0 + 256 * (l.getD i 0).toNat) (by omega)
  have e : 256 ^ i = 65536 ^ (i / 2) * 256 := by
    rw [← pow256, ← Nat.pow_succ]; congr 1; omega
  rw [le8_take_succ l _ hk, ← h, e]
  rw [Nat.mul_add, ← Nat.mul_assoc] at hs
  omega

/-! ### Bytes -/
/-- the values of bytes -/
def bvals (l : List UInt8) : List Value := l.map fun b => Value.int .u8 (b.toNat : Nat)
theorem bvals_snoc (l : List UInt8) (b : UInt8) : bvals (l ++ [b]) = bvals l ++ [.int .u8 b.toNat] := by simp [bvals]
theorem leBytes_succ (N n : Nat) : leBytes N (n + 1) = leBytes N n ++ [UInt8.ofNat (N / 256 ^ n % 256)] := by simp [leBytes, List.range_succ]
theorem leBytes_length (N n : Nat) : (leBytes N n).length = n := by simp [leBytes]
theorem u8_of (n : Nat) : (UInt8.ofNat (n % 256)).toNat = n % 256 := by simp
theorem byteInfo : (Tryz.prog.info? 5).map (fun i => (i.zero, i.size, i.bytes)) = some (some (.int .u8 0), 1, 1) := by kernel_rfl

/-- a row of bytes of the call's own, as a string -/
theorem conv_bytes {P : Program} {w : World} {base src e dst : TypeId} {v : Value} {n : Nat} {bs : List UInt8} (hs : P.underlying src = some (.slice e)) (he : P.underlying e = some (.int .u8)) (hd : P.underlying dst = some .string)
    (hn : bs.length = n) (h : w.ownsRow base e 1 v n (bvals bs)) : (convert src dst v).run P w = .ok (.string ⟨bs.toArray⟩) w := by
  rcases Nat.eq_zero_or_pos n with h0 | h0
  · have hb : bs = [] := List.length_eq_zero_iff.1 (by omega)
    subst hb
    rcases h.2 with ⟨rfl, _⟩ | ⟨g, cap, cur, rfl, _⟩
    · exact run_convert_bytes_nil w src e hs he 0 0 dst hd
    · exact run_convert_bytes_arg w src e hs he g 0 n cap [] (by simpa using h0.symm) (fun i hi => by omega) dst hd
  · obtain ⟨g, cap, rfl, _⟩ := own_form h h0
    have := run_convert_bytes_arg (P := P) w src e hs he g 0 n cap (bs.map fun b => (b.toNat : Int)) (by simpa using hn) (fun i hi => ?_) dst hd
    · rw [this]
      have e1 : strOfNums (bs.map fun b => (b.toNat : Int)) = ⟨bs.toArray⟩ := by
        unfold strOfNums
        congr 2
        rw [List.map_map]
        conv => rhs; rw [← List.map_id bs]
        apply List.map_congr_left
        intro b _
        simp
      rw [e1]
    · rw [Nat.zero_add, h.cellAt i (by omega)]
      have hi' : i < bs.length := by omega
      simp [bvals, List.getElem?_eq_getElem hi', List.getD_eq_getElem?_getD]

end Go.Proofs.YtkhdhiddhnmdkaaGreatDoor

namespace Go.Proofs.YtkhdhiddhnmdkaaGreatDoor
open Go.RowKit

theorem dig_len {l : List Nat} {N : Nat} (h : Can l) (hb : bv l < 65536 ^ N) : l.length ≤ N := by
  rcases Nat.lt_or_ge N l.length with hlt | hge
  · exfalso
    have h1 := h.lower (fun e => by rw [e] at hlt; exact Nat.not_lt_zero _ hlt)
    have h2 : 65536 ^ N ≤ 65536 ^ (l.length - 1) := Nat.pow_le_pow_right (by decide) (by omega)
    omega
  · exact hge
theorem num_digs {w : World} {v : Value} {n N : Nat} (h : Num w v n) (hn : n < 65536 ^ N) : ∃ l, DigAt w v l ∧ Can l ∧ bv l = n ∧ l.length ≤ N := by
  obtain ⟨l, hd, hc, hb⟩ := h
  exact ⟨l, hd, hc, hb, dig_len hc (by rw [hb]; exact hn)⟩
def hdig (l : List Nat) (r i : Nat) : Nat := (l.getD i 0 + l.getD (i + 1) 0 * 65536) / 2 ^ r % 65536
def hdigs (l : List Nat) (r n : Nat) : List Nat := (List.range n).map (hdig l r)
theorem hdigs_succ (l : List Nat) (r n : Nat) : hdigs l r (n + 1) = hdigs l r n ++ [hdig l r n] := by simp [hdigs, List.range_succ]
theorem hdigs_len (l : List Nat) (r n : Nat) : (hdigs l r n).length = n := by simp [hdigs]
theorem hdigs_sm (l : List Nat) (r n : Nat) : Sm (hdigs l r n) := fun d hd => by
  obtain ⟨i, _, rfl⟩ := List.mem_map.1 hd
  exact Nat.mod_lt _ (by decide)
theorem hdigs_cons (d : Nat) (t : List Nat) (r n : Nat) : hdigs (d :: t) r (n + 1) = hdig (d :: t) r 0 :: hdigs t r n := by
  unfold hdigs
  rw [List.range_succ_eq_map, List.map_cons, List.map_map]
  rfl
theorem half_step (r : Nat) (hr : r < 16) (d t0 B T : Nat) (hd : d < 65536) (_h0 : t0 < 65536) (hT : T = t0 + 65536 * B) : (d + t0 * 65536) / 2 ^ r % 65536 + 65536 * (T / 2 ^ r) = (d + 65536 * T) / 2 ^ r := by
  subst hT
  match r, hr with
  | 0, _ => simp; omega
  | 1, _ => simp; omega
  | 2, _ => simp; omega
  | 3, _ => simp; omega
  | 4, _ => simp; omega
  | 5, _ => simp; omega
  | 6, _ => simp; omega
  | 7, _ => simp; omega
  | 8, _ => simp; omega
  | 9, _ => simp; omega
  | 10, _ => simp; omega
  | 11, _ => simp; omega
  | 12, _ => simp; omega
  | 13, _ => simp; omega
  | 14, _ => simp; omega
  | 15, _ => simp; omega
  | n + 16, h => omega
theorem bv_half (r : Nat) (hr : r < 16) : ∀ l : List Nat, Sm l → bv (hdigs l r l.length) = bv l / 2 ^ r
  | [], _ => by simp [hdigs]
  | d :: t, hs => by
    have hd := hs d (by simp)
    have ht : Sm t := fun x hx => hs x (by simp [hx])
    rw [List.length_cons, hdigs_cons, bv_cons, bv_half r hr t ht, bv_cons]
    have h0 := ht.getD 0
    cases t with
    | nil => exact half_step r hr d 0 0 0 hd (by decide) rfl
    | cons t0 t' => exact half_step r hr d t0 (bv t') _ hd h0 rfl
theorem getD_drop (l : List Nat) (q i : Nat) : (l.drop q).getD i 0 = l.getD (q + i) 0 := by
  rw [List.getD_eq_getElem?_getD, List.getElem?_drop, List.getD_eq_getElem?_getD]
theorem bv_drop {l : List Nat} (hs : Sm l) (q : Nat) (h : q ≤ l.length) : bv (l.drop q) = bv l / 65536 ^ q := by
  have h1 := bv_take_drop l q h
  have h2 := bv_lt (hs.take q)
  rw [List.length_take, Nat.min_eq_left h] at h2
  rw [h1, Nat.add_mul_div_left _ _ (Nat.pow_pos (by decide)), Nat.div_eq_of_lt h2, Nat.zero_add]
theorem half_val {l : List Nat} (hs : Sm l) (n : Nat) (h : n / 16 < l.length) : bv (hdigs (l.drop (n / 16)) (n % 16) (l.length - n / 16)) = bv l / 2 ^ n := by
  have e := bv_half (n % 16) (Nat.mod_lt _ (by decide)) (l.drop (n / 16)) (hs.drop _)
  rw [List.length_drop] at e
  rw [e, bv_drop hs _ (Nat.le_of_lt h), Nat.div_div_eq_div_mul, show (65536 : Nat) = 2 ^ 16 from rfl, ← Nat.pow_mul, ← Nat.pow_add, Nat.div_add_mod]

end Go.Proofs.YtkhdhiddhnmdkaaGreatDoor

namespace Go.Proofs.YtkhdhiddhnmdkaaGreatDoor

def Prm (n : Nat) : Prop := 2 ≤ n ∧ ∀ d, d ∣ n → d = 1 ∨ d = n

theorem Prm.pos {p : Nat} (h : Prm p) : 0 < p := by have := h.1; omega
theorem Prm.coprime {p a : Nat} (h : Prm p) (ha : ¬ p ∣ a) : Nat.gcd p a = 1 := by
  rcases h.2 _ (Nat.gcd_dvd_left p a) with h1 | h1
  · exact h1
  · exact absurd (h1 ▸ Nat.gcd_dvd_right p a) ha
theorem Prm.dvd_mul {p a b : Nat} (h : Prm p) (hd : p ∣ a * b) : p ∣ a ∨ p ∣ b := by
  by_cases ha : p ∣ a
  · exact .inl ha
  · exact .inr (Nat.Coprime.dvd_of_dvd_mul_left (h.coprime ha) hd)
theorem Prm.not_dvd_mul {p a b : Nat} (h : Prm p) (ha : ¬ p ∣ a) (hb : ¬ p ∣ b) : ¬ p ∣ a * b := fun hd => (h.dvd_mul hd).elim ha hb
theorem Prm.not_dvd_pow {p a : Nat} (h : Prm p) (ha : ¬ p ∣ a) : ∀ n, ¬ p ∣ a ^ n
  | 0 => fun hd => by
    have := Nat.le_of_dvd (by simp) hd
    have := h.1
    simp at *
    omega
  | n + 1 => by rw [Nat.pow_succ]; exact h.not_dvd_mul (h.not_dvd_pow ha n) ha
theorem dvd_of_mod_eq {a b n : Nat} (_hab : a ≤ b) (h : a % n = b % n) : n ∣ b - a := Nat.dvd_of_mod_eq_zero (Nat.sub_mod_eq_zero_of_mod_eq h.symm)
theorem mod_eq_of_dvd {a b n : Nat} (hab : a ≤ b) (h : n ∣ b - a) : a % n = b % n := by
  obtain ⟨c, hc⟩ := h
  rw [show b = a + n * c by omega, Nat.add_mul_mod_self_left]
/-- a factor that p does not divide is struck -/
theorem Prm.cancel {p a b c : Nat} (h : Prm p) (hc : ¬ p ∣ c) (he : a * c % p = b * c % p) : a % p = b % p := by
  rcases Nat.le_total a b with hab | hab
  · have h1 : p ∣ (b - a) * c := by
      rw [Nat.sub_mul]
      exact dvd_of_mod_eq (Nat.mul_le_mul_right c hab) he
    have h2 : p ∣ b - a := (h.dvd_mul h1).resolve_right hc
    exact mod_eq_of_dvd hab h2
  · have h1 : p ∣ (a - b) * c := by
      rw [Nat.sub_mul]
      exact dvd_of_mod_eq (Nat.mul_le_mul_right c hab) he.symm
    have h2 : p ∣ a - b := (h.dvd_mul h1).resolve_right hc
    exact (mod_eq_of_dvd hab h2).symm

def prodL (l : List Nat) : Nat := l.foldr (· * ·) 1
theorem prodL_cons (a : Nat) (l : List Nat) : prodL (a :: l) = a * prodL l := rfl
theorem prodL_erase (l : List Nat) (a : Nat) (h : a ∈ l) : prodL l = a * prodL (l.erase a) := by
  induction l with
  | nil => cases h
  | cons b t ih =>
    by_cases e : b = a
    · subst e; rw [List.erase_cons_head]; rfl
    · rw [List.erase_cons_tail (by simpa using e), prodL_cons, prodL_cons, ih (by simpa [Ne.symm e] using h), Nat.mul_left_comm]
theorem prodL_same : ∀ (l m : List Nat), l.Nodup → (∀ x ∈ l, x ∈ m) → m.length ≤ l.length → prodL l = prodL m
  | [], m, _, _, hl => by
    obtain rfl := List.eq_nil_of_length_eq_zero (Nat.le_zero.1 hl)
    rfl
  | a :: t, m, hn, hs, hl => by
    have ha : a ∈ m := hs a (by simp)
    obtain ⟨hat, ht⟩ := List.nodup_cons.1 hn
    rw [prodL_erase m a ha, prodL_cons, prodL_same t (m.erase a) ht (fun x hx => (List.mem_erase_of_ne (fun e => by subst e; exact hat hx)).2 (hs x (by simp [hx]))) (by rw [List.length_erase_of_mem ha]; simp at hl; omega)]
theorem prodL_map_mod (p a : Nat) : ∀ l : List Nat, prodL (l.map fun x => a * x % p) % p = a ^ l.length * prodL l % p
  | [] => by simp [prodL]
  | b :: t => by
    rw [List.map_cons, prodL_cons, prodL_cons, List.length_cons, Nat.mod_mul_mod, Nat.mul_mod, prodL_map_mod p a t, ← Nat.mul_mod, Nat.pow_succ]
    congr 1
    simp only [Nat.mul_assoc, Nat.mul_left_comm, Nat.mul_comm]
theorem Prm.not_dvd_prodL {p : Nat} (h : Prm p) : ∀ l : List Nat, (∀ x ∈ l, ¬ p ∣ x) → ¬ p ∣ prodL l
  | [], _ => fun hd => by have := Nat.le_of_dvd (by simp [prodL]) hd; have := h.1; simp [prodL] at *; omega
  | a :: t, hs => h.not_dvd_mul (hs a (by simp)) (h.not_dvd_prodL t (fun x hx => hs x (by simp [hx])))
theorem nodup_map_of {l : List Nat} {f : Nat → Nat} (h : l.Nodup) (hf : ∀ x ∈ l, ∀ y ∈ l, f x = f y → x = y) : (l.map f).Nodup := by
  induction l with
  | nil => simp
  | cons a t ih =>
    obtain ⟨ha, ht⟩ := List.nodup_cons.1 h
    rw [List.map_cons, List.nodup_cons]
    refine ⟨fun hm => ?_, ih ht (fun x hx y hy => hf x (by simp [hx]) y (by simp [hy]))⟩
    obtain ⟨y, hy, e⟩ := List.mem_map.1 hm
    have := hf y (by simp [hy]) a (by simp) e
    subst this
    exact ha hy
/-- Fermat's little theorem -/
theorem Prm.fermat {p a : Nat} (h : Prm p) (ha : ¬ p ∣ a) : a ^ (p - 1) % p = 1 := by
  have hp := h.1
  have hmem : ∀ x, x ∈ List.range' 1 (p - 1) ↔ 1 ≤ x ∧ x < p := by
    intro x; rw [List.mem_range'_1]; omega
  have hnd : ∀ x ∈ List.range' 1 (p - 1), ¬ p ∣ x := fun x hx hd => by
    have := (hmem x).1 hx
    have := Nat.le_of_dvd (by omega) hd
    omega
  have key : prodL ((List.range' 1 (p - 1)).map fun x => a * x % p) = prodL (List.range' 1 (p - 1)) := by
    refine prodL_same _ _ (nodup_map_of List.nodup_range' fun x hx y hy e => ?_) (fun x hx => ?_) (by simp)
    · have e2 := h.cancel ha (a := x) (b := y) (by rw [Nat.mul_comm x, Nat.mul_comm y]; exact e)
      have := (hmem x).1 hx; have := (hmem y).1 hy
      rwa [Nat.mod_eq_of_lt (by omega), Nat.mod_eq_of_lt (by omega)] at e2
    · obtain ⟨y, hy, rfl⟩ := List.mem_map.1 hx
      refine (hmem _).2 ⟨Nat.pos_of_ne_zero fun e => ?_, Nat.mod_lt _ (by omega)⟩
      exact h.not_dvd_mul ha (hnd y hy) (Nat.dvd_of_mod_eq_zero e)
  have k2 := prodL_map_mod p a (List.range' 1 (p - 1))
  rw [key, List.length_range'] at k2
  have k3 := h.cancel (h.not_dvd_prodL _ hnd) (a := a ^ (p - 1)) (b := 1) (by rw [Nat.one_mul]; exact k2.symm)
  rw [k3, Nat.mod_eq_of_lt (by omega)]

theorem exists_prm : ∀ n : Nat, 2 ≤ n → ∃ r, Prm r ∧ r ∣ n := by
  intro n
  induction n using Nat.strongRecOn with
  | ind n ih =>
    intro h
    by_cases hp : Prm n
    · exact ⟨n, hp, Nat.dvd_refl n⟩
    · have : ∃ d, d ∣ n ∧ d ≠ 1 ∧ d ≠ n := Classical.byContradiction fun hc => hp ⟨h, fun d hd => Classical.byContradiction fun hh => hc ⟨d, hd, fun e => hh (.inl e), fun e => hh (.inr e)⟩⟩
      obtain ⟨d, hd, h1, h2⟩ := this
      have hl := Nat.le_of_dvd (by omega) hd
      have h0 : d ≠ 0 := fun e => by subst e; have := Nat.eq_zero_of_zero_dvd hd; omega
      obtain ⟨r, hr, hrd⟩ := ih d (by omega) (by omega)
      exact ⟨r, hr, Nat.dvd_trans hrd hd⟩
/-- whose prime factors are all greater than its root, is prime -/
theorem prm_of_large {n : Nat} (h : 2 ≤ n) (hl : ∀ r, Prm r → r ∣ n → n < r * r) : Prm n := by
  refine ⟨h, fun d hd => Classical.byContradiction fun hh => ?_⟩
  have h1 : d ≠ 1 := fun e => hh (.inl e)
  have h2 : d ≠ n := fun e => hh (.inr e)
  obtain ⟨e, rfl⟩ := hd
  have h0 : d ≠ 0 := fun x => by subst x; simp at h
  have e0 : e ≠ 0 := fun x => by subst x; simp at h
  have e1 : e ≠ 1 := fun x => by subst x; simp at h2
  obtain ⟨r, hr, hrd⟩ := exists_prm d (by omega)
  obtain ⟨s, hs, hse⟩ := exists_prm e (by omega)
  have a1 := Nat.le_of_dvd (by omega) hrd
  have a2 := Nat.le_of_dvd (by omega) hse
  have b1 := hl r hr (Nat.dvd_trans hrd (Nat.dvd_mul_right d e))
  have b2 := hl s hs (Nat.dvd_trans hse (Nat.dvd_mul_left e d))
  rcases Nat.le_total r s with hrs | hrs
  · have := Nat.mul_le_mul a1 (Nat.le_trans hrs a2)
    omega
  · have := Nat.mul_le_mul (Nat.le_trans hrs a1) a2
    omega

theorem pow_mod_one {b r : Nat} (h : b % r = 1 % r) (n : Nat) : b ^ n % r = 1 % r := by
  rw [Nat.pow_mod, h, ← Nat.pow_mod, Nat.one_pow]
/-- an order that divides a prime q and r - 1, is 1 unless q divides r - 1 -/
theorem order_dvd {b r q : Nat} (hr : Prm r) (hq : Prm q) (hb : ¬ r ∣ b) (h1 : b ^ q % r = 1) (h2 : b % r ≠ 1) : q ∣ r - 1 := by
  refine Classical.byContradiction fun hn => h2 ?_
  have hr2 := hr.1
  have hg : Nat.gcd q (r - 1) = 1 := hq.coprime hn
  have hf := hr.fermat hb
  -- descend by Euclid's algorithm
  have key : ∀ k x y : Nat, x + y ≤ k → b ^ x % r = 1 → b ^ y % r = 1 → b ^ Nat.gcd x y % r = 1 := by
    intro k
    induction k with
    | zero =>
      intro x y hk hx hy
      obtain rfl : x = 0 := by omega
      obtain rfl : y = 0 := by omega
      simpa using hx
    | succ k ih =>
      intro x y hk hx hy
      rcases Nat.eq_zero_or_pos x with rfl | hx0
      · rw [Nat.gcd_zero_left]; exact hy
      rcases Nat.eq_zero_or_pos y with rfl | hy0
      · rw [Nat.gcd_zero_right]; exact hx
      have sub : ∀ u v : Nat, v ≤ u → b ^ u % r = 1 → b ^ v % r = 1 → b ^ (u - v) % r = 1 := by
        intro u v huv hu hv
        have e : b ^ (u - v) * b ^ v % r = 1 * b ^ v % r := by
          rw [← Nat.pow_add, Nat.sub_add_cancel huv, Nat.one_mul, hu, hv]
        have := hr.cancel (hr.not_dvd_pow hb v) e
        rw [this, Nat.mod_eq_of_lt (by omega)]
      rcases Nat.le_total y x with hxy | hxy
      · rw [show Nat.gcd x y = Nat.gcd (x - y) y by rw [Nat.gcd_sub_self_left hxy]]
        exact ih (x - y) y (by omega) (sub x y hxy hx hy) hy
      · rw [show Nat.gcd x y = Nat.gcd x (y - x) by rw [Nat.gcd_sub_self_right hxy]]
        exact ih x (y - x) (by omega) hx (sub y x hxy hy hx)
  have := key _ q (r - 1) (Nat.le_refl _) h1 hf
  rwa [hg, Nat.pow_one] at this
/-- Pocklington: a prime factor of n is 1 above a multiple of q -/
theorem pock_dvd {n q m a r : Nat} (hq : Prm q) (hn : n = q * m + 1) (h1 : a ^ (q * m) % n = 1) (h2 : Nat.gcd (a ^ m % n + (n - 1)) n = 1) (hr : Prm r) (hrn : r ∣ n) : q ∣ r - 1 := by
  have hr2 := hr.1
  have h1r : a ^ (q * m) % r = 1 := by
    rw [← Nat.mod_mod_of_dvd _ hrn, h1, Nat.mod_eq_of_lt (by omega)]
  have hqm : q * m ≠ 0 := fun e => by
    rw [e] at hn
    subst hn
    have := Nat.le_of_dvd (by omega) hrn
    omega
  have hm0 : m ≠ 0 := fun e => hqm (by rw [e, Nat.mul_zero])
  have hb : ¬ r ∣ a ^ m := fun hd => by
    have : a ^ (q * m) % r = 0 := by
      rw [Nat.mul_comm, Nat.pow_mul]
      have : r ∣ (a ^ m) ^ q := Nat.dvd_trans hd (by
        have := hq.1
        obtain ⟨k, rfl⟩ : ∃ k, q = k + 1 := ⟨q - 1, by omega⟩
        rw [Nat.pow_succ]; exact Nat.dvd_mul_left _ _)
      exact Nat.mod_eq_zero_of_dvd this
    omega
  refine order_dvd hr hq hb (by rw [← Nat.pow_mul, Nat.mul_comm]; exact h1r) (fun e => ?_)
  have h3 : r ∣ a ^ m % n + (n - 1) := by
    apply Nat.dvd_of_mod_eq_zero
    rw [Nat.add_mod, Nat.mod_mod_of_dvd _ hrn, e]
    obtain ⟨c, rfl⟩ := hrn
    have hc : c ≠ 0 := fun x => by subst x; simp at hn
    have e2 : r * c - 1 = (r - 1) + r * (c - 1) := by
      obtain ⟨k, rfl⟩ : ∃ k, c = k + 1 := ⟨c - 1, by omega⟩
      rw [Nat.mul_add, Nat.mul_one, Nat.add_sub_cancel]; omega
    rw [e2, Nat.add_mul_mod_self_left, Nat.mod_eq_of_lt (a := r - 1) (by omega), show 1 + (r - 1) = r by omega, Nat.mod_self]
  have := Nat.dvd_gcd h3 hrn
  rw [h2] at this
  have := Nat.le_of_dvd (by omega) this
  omega
theorem pock1 {n q m a : Nat} (hq : Prm q) (hn : n = q * m + 1) (h1 : a ^ (q * m) % n = 1) (h2 : Nat.gcd (a ^ m % n + (n - 1)) n = 1) (hl : n < (q + 1) * (q + 1)) (hm : m ≠ 0) : Prm n := by
  have hq2 := hq.1
  refine prm_of_large (by rw [hn]; have := Nat.mul_le_mul hq2 (Nat.pos_of_ne_zero hm); omega) fun r hr hrn => ?_
  have hd := pock_dvd hq hn h1 h2 hr hrn
  have hr2 := hr.1
  have hle := Nat.le_of_dvd (by omega) hd
  exact Nat.lt_of_lt_of_le hl (Nat.mul_le_mul (by omega) (by omega))
theorem pock2 {n q m q' m' a : Nat} (hq : Prm q) (hq' : Prm q') (hne : q ≠ q') (hn : n = q * m + 1) (hn' : n = q' * m' + 1) (h1 : a ^ (q * m) % n = 1) (h2 : Nat.gcd (a ^ m % n + (n - 1)) n = 1) (h2' : Nat.gcd (a ^ m' % n + (n - 1)) n = 1) (hl : n < (q * q' + 1) * (q * q' + 1)) (hm : m ≠ 0) : Prm n := by
  have hq2 := hq.1
  have e : q' * m' = q * m := by omega
  refine prm_of_large (by rw [hn]; have := Nat.mul_le_mul hq2 (Nat.pos_of_ne_zero hm); omega) fun r hr hrn => ?_
  have hd := pock_dvd hq hn h1 h2 hr hrn
  have hd' := pock_dvd hq' hn' (by rw [e]; exact h1) h2' hr hrn
  have hr2 := hr.1
  have hco : Nat.Coprime q q' := hq.coprime fun hx => by
    rcases hq'.2 q hx with h | h
    · omega
    · exact hne h
  have hle := Nat.le_of_dvd (by omega) (hco.mul_dvd_of_dvd_of_dvd hd hd')
  exact Nat.lt_of_lt_of_le hl (Nat.mul_le_mul (by omega) (by omega))

/-- a power modulo n, by squares -/
def pm (n : Nat) : Nat → Nat → Nat → Nat
  | 0, _, _ => 1 % n
  | k + 1, a, e => if e = 0 then 1 % n else (if e % 2 = 1 then a * pm n k (a * a % n) (e / 2) % n else pm n k (a * a % n) (e / 2))
theorem pm_eq (n : Nat) : ∀ (k a e : Nat), e < 2 ^ k → pm n k a e = a ^ e % n
  | 0, a, e, h => by
    obtain rfl : e = 0 := by simpa using h
    simp [pm]
  | k + 1, a, e, h => by
    have ih := pm_eq n k (a * a % n) (e / 2) (by rw [Nat.pow_succ] at h; omega)
    unfold pm
    rw [ih, ← Nat.pow_mod]
    have e2 : (a * a) ^ (e / 2) = a ^ (2 * (e / 2)) := by rw [← Nat.pow_two, ← Nat.pow_mul]
    split
    · rename_i h0; rw [h0, Nat.pow_zero]
    · split
      · rename_i h1
        rw [Nat.mul_mod_mod, e2, Nat.mul_comm, ← Nat.pow_succ]
        congr 2; omega
      · rename_i h1
        rw [e2]
        congr 2; omega
/-- no divisor from k on, so many steps -/
def noDiv (n : Nat) : Nat → Nat → Bool
  | 0, _ => true
  | f + 1, k => n % k != 0 && noDiv n f (k + 1)
theorem noDiv_ok (n : Nat) : ∀ f k, noDiv n f k = true → ∀ d, k ≤ d → d < k + f → ¬ d ∣ n
  | 0, k, _, d, h1, h2 => by omega
  | f + 1, k, h, d, h1, h2 => by
    simp only [noDiv, Bool.and_eq_true, bne_iff_ne, ne_eq] at h
    by_cases e : d = k
    · subst e; exact fun hd => h.1 (Nat.mod_eq_zero_of_dvd hd)
    · exact noDiv_ok n f (k + 1) h.2 d (by omega) (by omega)
theorem prm_small (n f : Nat) (h2 : 2 ≤ n) (h : noDiv n f 2 = true) (hf : n < (f + 2) * (f + 2)) : Prm n := by
  refine prm_of_large h2 fun r hr hd => ?_
  have hr2 := hr.1
  rcases Nat.lt_or_ge r (f + 2) with hl | hl
  · exact absurd hd (noDiv_ok n f 2 h r hr2 (by omega))
  · exact Nat.lt_of_lt_of_le hf (Nat.mul_le_mul hl hl)
/-- Pocklington's test, as the kernel runs it -/
def pockB (n q m k : Nat) : Bool := n == q * m + 1 && pm n k 2 (q * m) == 1 && Nat.gcd (pm n k 2 m + (n - 1)) n == 1 && m != 0 && decide (q * m < 2 ^ k) && decide (m < 2 ^ k)
theorem pockB_ok {n q m k : Nat} (h : pockB n q m k = true) : n = q * m + 1 ∧ 2 ^ (q * m) % n = 1 ∧ Nat.gcd (2 ^ m % n + (n - 1)) n = 1 ∧ m ≠ 0 := by
  simp only [pockB, Bool.and_eq_true, beq_iff_eq, bne_iff_ne, ne_eq, decide_eq_true_eq] at h
  obtain ⟨⟨⟨⟨⟨h1, h2⟩, h3⟩, h4⟩, h5⟩, h6⟩ := h
  rw [pm_eq n k 2 _ h5] at h2
  rw [pm_eq n k 2 _ h6] at h3
  exact ⟨h1, h2, h3, h4⟩
theorem prm_one {q : Nat} (n m k : Nat) (hq : Prm q) (h : pockB n q m k = true) (hl : n < (q + 1) * (q + 1)) : Prm n := by
  obtain ⟨h1, h2, h3, h4⟩ := pockB_ok h
  exact pock1 hq h1 h2 h3 hl h4
theorem prm_two {q q' : Nat} (n m m' k : Nat) (hq : Prm q) (hq' : Prm q') (hne : q ≠ q') (h : pockB n q m k = true) (h' : pockB n q' m' k = true) (hl : n < (q * q' + 1) * (q * q' + 1)) : Prm n := by
  obtain ⟨h1, h2, h3, h4⟩ := pockB_ok h
  obtain ⟨g1, _, g3, _⟩ := pockB_ok h'
  exact pock2 hq hq' hne h1 g1 h2 h3 g3 hl h4
theorem prm_8574133 : Prm 8574133 := prm_small 8574133 2929 (by decide) (by decide +kernel) (by decide)
theorem prm_127 : Prm 127 := prm_small 127 12 (by decide) (by decide +kernel) (by decide)
theorem prm_1919519569386763 : Prm 1919519569386763 := prm_two 1919519569386763 223873314 15114327318006 51 prm_8574133 prm_127 (by decide) (by decide +kernel) (by decide +kernel) (by decide)
theorem prm_569003 : Prm 569003 := prm_small 569003 755 (by decide) (by decide +kernel) (by decide)
theorem prm_2773320623 : Prm 2773320623 := prm_one 2773320623 4874 32 prm_569003 (by decide +kernel) (by decide)
theorem prm_72106336199 : Prm 72106336199 := prm_one 72106336199 26 37 prm_2773320623 (by decide +kernel) (by decide)
theorem prm_75445702479781427272750846543864801 : Prm 75445702479781427272750846543864801 := prm_two 75445702479781427272750846543864801 39304471641247389600 1046311689884858398375200 116 prm_1919519569386763 prm_72106336199 (by decide) (by decide +kernel) (by decide +kernel) (by decide)
theorem prm_430751 : Prm 430751 := prm_small 430751 657 (by decide) (by decide +kernel) (by decide)
theorem prm_4153 : Prm 4153 := prm_small 4153 65 (by decide) (by decide +kernel) (by decide)
theorem prm_31757755568855353 : Prm 31757755568855353 := prm_two 31757755568855353 73726481352 7646943310584 55 prm_430751 prm_4153 (by decide) (by decide +kernel) (by decide +kernel) (by decide)
theorem prm_74058212732561358302231226437062788676166966415465897661863160754340907 : Prm 74058212732561358302231226437062788676166966415465897661863160754340907 := prm_two 74058212732561358302231226437062788676166966415465897661863160754340907 981609426360740691344999861639072106 2331972502653487852620185443007392165117953542933313402 236 prm_75445702479781427272750846543864801 prm_31757755568855353 (by decide) (by decide +kernel) (by decide +kernel) (by decide)
theorem prm_57896044618658097711785492504343953926634992332820282019728792003956564819949 : Prm 57896044618658097711785492504343953926634992332820282019728792003956564819949 := prm_one 57896044618658097711785492504343953926634992332820282019728792003956564819949 781764 255 prm_74058212732561358302231226437062788676166966415465897661863160754340907 (by decide +kernel) (by decide)
theorem prm_1224481 : Prm 1224481 := prm_small 1224481 1107 (by decide) (by decide +kernel) (by decide)
theorem prm_531581 : Prm 531581 := prm_small 531581 730 (by decide) (by decide +kernel) (by decide)
theorem prm_1257559732178653 : Prm 1257559732178653 := prm_two 1257559732178653 1027014492 2365697292 51 prm_1224481 prm_531581 (by decide) (by decide +kernel) (by decide +kernel) (by decide)
theorem prm_4434155615661930479 : Prm 4434155615661930479 := prm_one 4434155615661930479 3526 62 prm_1257559732178653 (by decide +kernel) (by decide)
theorem prm_172054593956031949258510691 : Prm 172054593956031949258510691 := prm_one 172054593956031949258510691 38802110 88 prm_4434155615661930479 (by decide +kernel) (by decide)
theorem prm_19757330305831588566944191468367130476339 : Prm 19757330305831588566944191468367130476339 := prm_one 19757330305831588566944191468367130476339 114831751082918 134 prm_172054593956031949258510691 (by decide +kernel) (by decide)
theorem prm_276602624281642239937218680557139826668747 : Prm 276602624281642239937218680557139826668747 := prm_one 276602624281642239937218680557139826668747 14 138 prm_19757330305831588566944191468367130476339 (by decide +kernel) (by decide)
theorem prm_7237005577332262213973186563042994240857116359379907606001950938285454250989 : Prm 7237005577332262213973186563042994240857116359379907606001950938285454250989 := prm_one 7237005577332262213973186563042994240857116359379907606001950938285454250989 26163907866482859529727157400808004 253 prm_276602624281642239937218680557139826668747 (by decide +kernel) (by decide)
theorem prmP : Prm (2 ^ 255 - 19) := prm_57896044618658097711785492504343953926634992332820282019728792003956564819949
theorem prmL : Prm (2 ^ 252 + 27742317777372353535851937790883648493) := prm_7237005577332262213973186563042994240857116359379907606001950938285454250989
end Go.Proofs.YtkhdhiddhnmdkaaGreatDoor
