/-
sha2: its small functions.
sha2: the words of a block.
sha2: a block goes into the words.
The shelf's contracts on strings.Join, strings.Repeat, strings.Builder, bits.Mul64 at this program's numbers.
Strings as lists of bytes; a number's last byte.
-/
import Derived.Laws.CopyOwn
import Derived.Shelf.Strings.OnBuilder
import Derived.Shelf.Strings.Repeat
import Derived.Shelf.Bits.Mul64
import Derived.Test.YtcbkbjpdfanjpaaGreatDoorPk06
namespace Go.Proofs.YtcbkbjpdfanjpaaGreatDoor
open Go.RowKit
set_option maxRecDepth 100000
namespace Sha
def kl : Bool → List Int
  | true => [64, 80, 1, 8, 7, 19, 61, 6, 28, 34, 39, 14, 18, 41]
  | false => [32, 64, 7, 18, 3, 17, 19, 10, 2, 13, 22, 6, 11, 25]
def kw : Bool → Nat
  | true => 64
  | false => 32
def rot32 (x : Int) (n : Nat) : Int := bits .or .u32 (x * 2 ^ (32 - n) % 4294967296) (x / 2 ^ n)
def rot64 (x : Int) (n : Nat) : Int := bits .or .u64 (IntKind.u64.wrap (x * 2 ^ (64 - n))) (x / 2 ^ n)
def turnI : Bool → Int → Nat → Int
  | true, x, n => rot64 x n
  | false, x, n => IntKind.u64.wrap (rot32 (x % 4294967296) n)
def cutI (b : Bool) (x : Int) : Int := IntKind.u64.wrap (x * 2 ^ (64 - kw b)) / 2 ^ (64 - kw b)
def wordI (b : Bool) (x : Int) : Int := x / 2 ^ (64 - kw b)
def smallI (b : Bool) (x : Int) (p q r : Nat) : Int := bits .xor .u64 (bits .xor .u64 (turnI b x p) (turnI b x q)) (x / 2 ^ min r 64)
def largeI (b : Bool) (x : Int) (p q r : Nat) : Int := bits .xor .u64 (bits .xor .u64 (turnI b x p) (turnI b x q)) (turnI b x r)
end Sha
open Sha
theorem neg31 : ∀ n : Fin 32, n.val ≠ 0 → bits .and .u64 (IntKind.u64.wrap (-(n.val : Int))) 31 = ((32 - n.val : Nat) : Int) := by decide +kernel
theorem neg63 : ∀ n : Fin 64, n.val ≠ 0 → bits .and .u64 (IntKind.u64.wrap (-(n.val : Int))) 63 = ((64 - n.val : Nat) : Int) := by decide +kernel
abbrev kb (b : Bool) : List Value := iv .i64 (kl b)
theorem neg_i64 (n : Nat) (h : n < 64) : IntKind.i64.wrap (-(n : Int)) = -(n : Int) := by rw [IntKind.wrap_i64]; omega
theorem rotl32_ok (x : Int) (n : Nat) (h0 : 0 < n) (h : n < 32) (w : World) : Calls Tryz.prog 118 #[.int .u32 x, .int .i64 (-(n : Int))] w fun e w' => e = .returned (.int .u32 (rot32 x n)) ∧ w = w' := by
  have e := neg31 ⟨n, h⟩ (by show n ≠ 0; omega)
  replace e : bits .and .u64 (IntKind.u64.wrap (-(n : Int))) 31 = ((32 - n : Nat) : Int) := e
  unfold rot32
  obtain ⟨m, hm, hm1, hm2⟩ : ∃ m : Nat, m = 32 - n ∧ 0 < m ∧ m < 32 := ⟨_, rfl, by omega, by omega⟩
  rw [← hm] at e ⊢
  have hn : (32 : Int) - (m : Int) = (n : Int) := by omega
  clear hm
  go_enter Tryz.func118, Tryz.ntmps118
  go_upto_region 2 with fail
  clear e
  go_wp2_with fail
  go_ret
  exact ⟨rfl, rfl⟩
end Go.Proofs.YtcbkbjpdfanjpaaGreatDoor

namespace Go.Proofs.YtcbkbjpdfanjpaaGreatDoor
open Go.RowKit Sha
set_option maxRecDepth 100000
namespace Sha
def kn (b : Bool) (i : Nat) : Nat := ((kl b).getD i 0).toNat
def sm0 (b : Bool) (x : Int) : Int := smallI b x (kn b 2) (kn b 3) (kn b 4)
def sm1 (b : Bool) (x : Int) : Int := smallI b x (kn b 5) (kn b 6) (kn b 7)
def lg0 (b : Bool) (x : Int) : Int := largeI b x (kn b 8) (kn b 9) (kn b 10)
def lg1 (b : Bool) (x : Int) : Int := largeI b x (kn b 11) (kn b 12) (kn b 13)
abbrev w64 (x : Int) : Int := IntKind.u64.wrap x
def byI (s : List UInt8) (j : Nat) : Int := ((s.getD j 0).toNat : Nat)
def accI (s : List UInt8) (n t : Nat) : Nat → Int
  | 0 => 0
  | i + 1 => bits .or .u64 (w64 (accI s n t i * 256)) (w64 (byI s (t * n + i)))
def nextI (b : Bool) (l : List Int) (t : Nat) : Int := cutI b (w64 (w64 (w64 (sm1 b (l.getD (t - 2) 0) + l.getD (t - 7) 0) + sm0 b (l.getD (t - 15) 0)) + l.getD (t - 16) 0))
def schL (b : Bool) (s : List UInt8) : Nat → List Int
  | 0 => List.replicate 80 0
  | t + 1 => (schL b s t).set t (if t < 16 then accI s (kw b / 8) t (kw b / 8) else nextI b (schL b s t) t)
theorem schL_len (b : Bool) (s : List UInt8) : ∀ t, (schL b s t).length = 80
  | 0 => rfl
  | t + 1 => by rw [schL, List.length_set, schL_len b s t]
theorem set_same : ∀ (l : List Int) (i : Nat), l.set i (l.getD i 0) = l
  | [], _ => rfl
  | _ :: _, 0 => rfl
  | a :: r, i + 1 => by show a :: r.set i (r.getD i 0) = _; rw [set_same r i]
theorem schL_zero (b : Bool) (s : List UInt8) : ∀ t j, t ≤ j → (schL b s t).getD j 0 = 0
  | 0, j, _ => by unfold schL; rw [List.getD_eq_getElem?_getD, List.getElem?_replicate]; split <;> rfl
  | t + 1, j, h => by
    rw [schL, List.getD_eq_getElem?_getD, List.getElem?_set_ne (by omega), ← List.getD_eq_getElem?_getD]
    exact schL_zero b s t j (by omega)
theorem schL_start (b : Bool) (s : List UInt8) (n t : Nat) : (schL b s t).set t (accI s n t 0) = schL b s t := by
  have h := set_same (schL b s t) t
  rw [schL_zero b s t t (Nat.le_refl _)] at h
  exact h
theorem schL_set (b : Bool) (s : List UInt8) (t : Nat) (x : Int) (h : t < 80) : ((schL b s t).set t x).getD t 0 = x := by
  rw [List.getD_eq_getElem?_getD, List.getElem?_set_self (by rw [schL_len]; exact h)]
  rfl
def kr : Bool → Nat
  | true => 80
  | false => 64
theorem kr_le (b : Bool) : kr b ≤ 80 := by cases b <;> decide
end Sha
abbrev k3 (b : Bool) (i : Nat) : List Value := [.int .i64 (kn b i : Nat), .int .i64 (kn b (i + 1) : Nat), .int .i64 (kn b (i + 2) : Nat)]
theorem kb_get (b : Bool) (i : Nat) (h : i < 14) : (kb b)[i]? = some (.int .i64 (kn b i : Nat)) := by
  have : ∀ b : Bool, ∀ i : Fin 14, (kl b).getD i.val 0 = ((kn b i.val : Nat) : Int) := by decide
  rw [iv_get _ _ _ (by cases b <;> exact h), this b ⟨i, h⟩]
theorem kb_range (b : Bool) (i : Nat) (h : i + 2 < 14) {w : World} {c : Nat} {t : TypeId} (hb : Blk w c t (kb b)) : w.rangeAt c i (k3 b i) := hb.range i _ fun j v hv => by
  match j, hv with
  | 0, hv => rw [← hv]; exact kb_get b i (by omega)
  | 1, hv => rw [← hv]; exact kb_get b (i + 1) (by omega)
  | 2, hv => rw [← hv]; exact kb_get b (i + 2) (by omega)
end Go.Proofs.YtcbkbjpdfanjpaaGreatDoor

namespace Go.Proofs.YtcbkbjpdfanjpaaGreatDoor
open Go.RowKit Sha
set_option maxRecDepth 100000
namespace Sha
abbrev notI (x : Int) : Int := bits .xor .u64 (if IntKind.u64.signed = true then -1 else IntKind.u64.max) x
def oneI (b : Bool) (kt wt : Int) (x : List Int) : Int :=
  w64 (w64 (w64 (w64 (x.getD 7 0 + lg1 b (x.getD 4 0)) + bits .xor .u64 (bits .and .u64 (x.getD 4 0) (x.getD 5 0)) (bits .and .u64 (notI (x.getD 4 0)) (x.getD 6 0))) + wordI b kt) + wt)
def twoI (b : Bool) (x : List Int) : Int :=
  w64 (lg0 b (x.getD 0 0) + bits .xor .u64 (bits .xor .u64 (bits .and .u64 (x.getD 0 0) (x.getD 1 0)) (bits .and .u64 (x.getD 0 0) (x.getD 2 0))) (bits .and .u64 (x.getD 1 0) (x.getD 2 0)))
def stepX (b : Bool) (kt wt : Int) (x : List Int) : List Int :=
  [cutI b (w64 (oneI b kt wt x + twoI b x)), x.getD 0 0, x.getD 1 0, x.getD 2 0, cutI b (w64 (x.getD 3 0 + oneI b kt wt x)), x.getD 4 0, x.getD 5 0, x.getD 6 0]
def rndL (b : Bool) (T W h : List Int) : Nat → List Int
  | 0 => h
  | t + 1 => stepX b (T.getD t 0) (W.getD t 0) (rndL b T W h t)
theorem rnd_len (b : Bool) (T W h : List Int) (hl : h.length = 8) : ∀ t, (rndL b T W h t).length = 8
  | 0 => hl
  | _ + 1 => rfl
def finL (b : Bool) (h x : List Int) : Nat → List Int
  | 0 => h
  | i + 1 => (finL b h x i).set i (cutI b (w64 ((finL b h x i).getD i 0 + x.getD i 0)))
theorem fin_len (b : Bool) (h x : List Int) : ∀ i, (finL b h x i).length = h.length
  | 0 => rfl
  | i + 1 => by rw [finL, List.length_set, fin_len b h x i]
def mixF (b : Bool) (T h : List Int) (s : List UInt8) : List Int := finL b h (rndL b T (schL b s (kr b)) h (kr b)) 8
theorem mix_len (b : Bool) (T h : List Int) (s : List UInt8) : (mixF b T h s).length = h.length := fin_len b h _ 8
end Sha
def z80 : List Int := List.replicate 80 0
theorem z80_len : (iv .u64 z80).length = 80 := rfl
def z8 : List Int := List.replicate 8 0
theorem z8_len : (iv .u64 z8).length = 8 := rfl
end Go.Proofs.YtcbkbjpdfanjpaaGreatDoor

namespace Go.Proofs.YtcbkbjpdfanjpaaGreatDoor
open Go.Shelf Go.RowKit Go.Lib
def Sh.lays156_ren : Go.Shelf.Ren := ⟨fun | 156 => 73 | 165 => 64 | 166 => 61 | 169 => 66 | 240 => 85 | 241 => 89 | 276 => 102 | 277 => 103 | 167 => 60 | 170 => 65 | n => n, fun | 31 => 42 | 9 => 9 | 3 => 3 | 4 => 4 | 0 => 0 | 20 => 20 | 72 => 70 | 76 => 105 | 70 => 67 | 37 => 68 | 75 => 30 | 127 => 133 | 164 => 146 | 5 => 5 | 80 => 50 | n => n, fun | n => n⟩
theorem Sh.lays156 : Go.Proofs.Lays.n156 Tryz.prog Sh.lays156_ren := {
  mixed := by kernel_rfl
  f156 := Tryz.func73.trans (congrArg some (by kernel_rfl))
  f165 := Tryz.func64.trans (congrArg some (by kernel_rfl))
  f166 := Tryz.func61.trans (congrArg some (by kernel_rfl))
  f169 := Tryz.func66.trans (congrArg some (by kernel_rfl))
  f240 := Tryz.func85.trans (congrArg some (by kernel_rfl))
  f241 := Tryz.func89.trans (congrArg some (by kernel_rfl))
  f276 := Tryz.func102.trans (congrArg some (by kernel_rfl))
  f277 := Tryz.func103.trans (congrArg some (by kernel_rfl))
  t0 := Tryz.underlying0
  a0 := Tryz.isAgg0
  z0 := Tryz.sizeOf0
  v0 := Tryz.zeroValue0
  t3 := Tryz.underlying3
  a3 := Tryz.isAgg3
  z3 := Tryz.sizeOf3
  v3 := Tryz.zeroValue3
  t4 := Tryz.underlying4
  a4 := Tryz.isAgg4
  z4 := Tryz.sizeOf4
  v4 := Tryz.zeroValue4
  t9 := Tryz.underlying9
  a9 := Tryz.isAgg9
  z9 := Tryz.sizeOf9
  v9 := Tryz.zeroValue9
  t20 := Tryz.underlying20
  a20 := Tryz.isAgg20
  z20 := Tryz.sizeOf20
  v20 := Tryz.zeroValue20
  t31 := Tryz.underlying42
  a31 := Tryz.isAgg42
  z31 := Tryz.sizeOf42
  v31 := Tryz.zeroValue42
  t37 := Tryz.underlying68
  a37 := Tryz.isAgg68
  z37 := Tryz.sizeOf68
  v37 := Tryz.zeroValue68
  t70 := Tryz.underlying67
  a70 := Tryz.isAgg67
  z70 := Tryz.sizeOf67
  v70 := Tryz.zeroValue67
  t72 := Tryz.underlying70
  a72 := Tryz.isAgg70
  z72 := Tryz.sizeOf70
  v72 := Tryz.zeroValue70
  t75 := Tryz.underlying30
  a75 := Tryz.isAgg30
  z75 := Tryz.sizeOf30
  v75 := Tryz.zeroValue30
  t76 := Tryz.underlying105
  a76 := Tryz.isAgg105
  z76 := Tryz.sizeOf105
  v76 := Tryz.zeroValue105
  t127 := Tryz.underlying133
  a127 := Tryz.isAgg133
  z127 := Tryz.sizeOf133
  v127 := Tryz.zeroValue133
  t164 := Tryz.underlying146
  a164 := Tryz.isAgg146
  z164 := Tryz.sizeOf146
  v164 := Tryz.zeroValue146 }
theorem Sh.extra156 : Builder.Extra Tryz.prog Sh.lays156_ren := {
  sizeBuilder := by kernel_rfl
  liesBuilder := by kernel_rfl
  t5 := Tryz.underlying5
  a5 := Tryz.isAgg5
  z5 := Tryz.sizeOf5
  v5 := Tryz.zeroValue5
  infoByte := by kernel_rfl
  cellsByte := by kernel_rfl
  sizeByte := by kernel_rfl
  neB5 := by decide }
theorem sh_join (bk o c : Nat) (xs : List ByteArray) (sep : ByteArray) (w : World) (hcells : ∀ (j : Nat) x, xs[j]? = some x → w.cell? ⟨bk, o + j, none⟩ = some (.string x)) (hbk : bk < w.heap.size) (hN : xs.length ≤ 140737488355328) (hcap : xs.length ≤ c) (hlen : (Lib.join (xs.map (·.data.toList)) sep.data.toList).length ≤ 140737488355328) :
    Calls Tryz.prog 73 #[.slice (some ⟨bk, o, none⟩) xs.length c, .string sep] w fun e w' => e = .returned (.string ⟨(Lib.join (xs.map (·.data.toList)) sep.data.toList).toArray⟩) ∧ Below w.heap.size w w' := Any.strings_Join Sh.lays156 Sh.extra156 bk o c xs sep w hcells hbk hN hcap hlen
theorem sh_join_none (a : Option Addr) (c : Nat) (sep : ByteArray) (w : World) :
    Calls Tryz.prog 73 #[.slice a 0 c, .string sep] w fun e w' => e = .returned (.string ⟨#[]⟩) ∧ w' = w := Any.strings_Join_none Sh.lays156 Sh.extra156 a c sep w
theorem sh_wstring (B b : Nat) (bs : List Value) (s : ByteArray) (w : World) (h : Lib.IsBuilder 70 5 B b bs w) (hlen : bs.length + s.size ≤ 140737488355328) (hBw : B ≤ w.heap.size) :
    Calls Tryz.prog 61 #[.pointer (some ⟨b, 0, none⟩), .string s] w fun e w' => e = .returned (.tuple #[.int .i64 s.size, .nilIface]) ∧ (Lib.BuilderAt 70 5 B b (.pointer (some ⟨b, 0, none⟩)) (bs ++ Lib.strCells s) w' ∧ Below B w w') :=
  Any.Builder_WriteString (ρ := Sh.lays156_ren) { Sh.lays156 with } Sh.extra156 B b bs s w h hlen hBw
theorem sh_string (B b : Nat) (l : List UInt8) (w : World) (h : Lib.IsBuilder 70 5 B b (Lib.byteCells l) w) (hBw : B ≤ w.heap.size) :
    Calls Tryz.prog 66 #[.pointer (some ⟨b, 0, none⟩)] w fun e w' => e = .returned (.string ⟨l.toArray⟩) ∧ Below B w w' := Any.Builder_String_any (ρ := Sh.lays156_ren) { Sh.lays156 with } Sh.extra156 B b l w h hBw
theorem sh_wbyte (B b : Nat) (bs : List Value) (c : Int) (w : World) (h : Lib.IsBuilder 70 5 B b bs w) (hlen : bs.length + 1 ≤ 140737488355328) (hBw : B ≤ w.heap.size) :
    Calls Tryz.prog 60 #[.pointer (some ⟨b, 0, none⟩), .int .u8 c] w fun e w' => e = .returned .nilIface ∧ (Lib.BuilderAt 70 5 B b (.pointer (some ⟨b, 0, none⟩)) (bs ++ [.int .u8 c]) w' ∧ Below B w w') :=
  Any.Builder_WriteByte (ρ := Sh.lays156_ren) { Sh.lays156 with f167 := Tryz.func60.trans (congrArg some (by kernel_rfl)), t5 := Sh.extra156.t5, a5 := Sh.extra156.a5, z5 := Sh.extra156.z5, v5 := Sh.extra156.v5 } Sh.extra156 B b bs c w h hlen hBw
theorem sh_len (B b : Nat) (bs : List Value) (w : World) (h : Lib.IsBuilder 70 5 B b bs w) :
    Calls Tryz.prog 65 #[.pointer (some ⟨b, 0, none⟩)] w fun e w' => e = .returned (.int .i64 bs.length) ∧ w' = w := Any.Builder_Len (ρ := Sh.lays156_ren) { Sh.lays156 with f170 := Tryz.func65.trans (congrArg some (by kernel_rfl)) } B b bs w h
def Sh.lays105_ren : Go.Shelf.Ren := ⟨fun | 105 => 29 | 212 => 62 | 99 => 63 | 165 => 64 | 166 => 61 | 170 => 65 | 169 => 66 | 263 => 86 | 264 => 87 | 206 => 88 | 240 => 85 | 241 => 89 | 276 => 102 | 277 => 103 | n => n, fun | 9 => 9 | 3 => 3 | 4 => 4 | 20 => 20 | 0 => 0 | 46 => 107 | 109 => 108 | 5 => 5 | 72 => 70 | 76 => 105 | 51 => 75 | 146 => 129 | 53 => 33 | 148 => 131 | 70 => 67 | 37 => 68 | 75 => 30 | 127 => 133 | 164 => 146 | 80 => 50 | n => n, fun | n => n⟩
theorem Sh.lays105 : Go.Proofs.Lays.n105 Tryz.prog Sh.lays105_ren := {
  mixed := by kernel_rfl
  f99 := Tryz.func63.trans (congrArg some (by kernel_rfl))
  f105 := Tryz.func29.trans (congrArg some (by kernel_rfl))
  f165 := Tryz.func64.trans (congrArg some (by kernel_rfl))
  f166 := Tryz.func61.trans (congrArg some (by kernel_rfl))
  f169 := Tryz.func66.trans (congrArg some (by kernel_rfl))
  f170 := Tryz.func65.trans (congrArg some (by kernel_rfl))
  f206 := Tryz.func88.trans (congrArg some (by kernel_rfl))
  f212 := Tryz.func62.trans (congrArg some (by kernel_rfl))
  f240 := Tryz.func85.trans (congrArg some (by kernel_rfl))
  f241 := Tryz.func89.trans (congrArg some (by kernel_rfl))
  f263 := Tryz.func86.trans (congrArg some (by kernel_rfl))
  f264 := Tryz.func87.trans (congrArg some (by kernel_rfl))
  f276 := Tryz.func102.trans (congrArg some (by kernel_rfl))
  f277 := Tryz.func103.trans (congrArg some (by kernel_rfl))
  t0 := Tryz.underlying0
  a0 := Tryz.isAgg0
  z0 := Tryz.sizeOf0
  v0 := Tryz.zeroValue0
  t3 := Tryz.underlying3
  a3 := Tryz.isAgg3
  z3 := Tryz.sizeOf3
  v3 := Tryz.zeroValue3
  t4 := Tryz.underlying4
  a4 := Tryz.isAgg4
  z4 := Tryz.sizeOf4
  v4 := Tryz.zeroValue4
  t5 := Tryz.underlying5
  a5 := Tryz.isAgg5
  z5 := Tryz.sizeOf5
  v5 := Tryz.zeroValue5
  t9 := Tryz.underlying9
  a9 := Tryz.isAgg9
  z9 := Tryz.sizeOf9
  v9 := Tryz.zeroValue9
  t20 := Tryz.underlying20
  a20 := Tryz.isAgg20
  z20 := Tryz.sizeOf20
  v20 := Tryz.zeroValue20
  t37 := Tryz.underlying68
  a37 := Tryz.isAgg68
  z37 := Tryz.sizeOf68
  v37 := Tryz.zeroValue68
  t46 := Tryz.underlying107
  a46 := Tryz.isAgg107
  z46 := Tryz.sizeOf107
  v46 := Tryz.zeroValue107
  t51 := Tryz.underlying75
  a51 := Tryz.isAgg75
  z51 := Tryz.sizeOf75
  v51 := Tryz.zeroValue75
  t53 := Tryz.underlying33
  a53 := Tryz.isAgg33
  z53 := Tryz.sizeOf33
  v53 := Tryz.zeroValue33
  t70 := Tryz.underlying67
  a70 := Tryz.isAgg67
  z70 := Tryz.sizeOf67
  v70 := Tryz.zeroValue67
  t72 := Tryz.underlying70
  a72 := Tryz.isAgg70
  z72 := Tryz.sizeOf70
  v72 := Tryz.zeroValue70
  t75 := Tryz.underlying30
  a75 := Tryz.isAgg30
  z75 := Tryz.sizeOf30
  v75 := Tryz.zeroValue30
  t76 := Tryz.underlying105
  a76 := Tryz.isAgg105
  z76 := Tryz.sizeOf105
  v76 := Tryz.zeroValue105
  t109 := Tryz.underlying108
  a109 := Tryz.isAgg108
  z109 := Tryz.sizeOf108
  v109 := Tryz.zeroValue108
  t127 := Tryz.underlying133
  a127 := Tryz.isAgg133
  z127 := Tryz.sizeOf133
  v127 := Tryz.zeroValue133
  t146 := Tryz.underlying129
  a146 := Tryz.isAgg129
  z146 := Tryz.sizeOf129
  v146 := Tryz.zeroValue129
  t148 := Tryz.underlying131
  a148 := Tryz.isAgg131
  z148 := Tryz.sizeOf131
  v148 := Tryz.zeroValue131
  t164 := Tryz.underlying146
  a164 := Tryz.isAgg146
  z164 := Tryz.sizeOf146
  v164 := Tryz.zeroValue146 }
theorem Sh.extra105 : Builder.Extra Tryz.prog Sh.lays105_ren := {
  sizeBuilder := by kernel_rfl
  liesBuilder := by kernel_rfl
  t5 := Tryz.underlying5
  a5 := Tryz.isAgg5
  z5 := Tryz.sizeOf5
  v5 := Tryz.zeroValue5
  infoByte := by kernel_rfl
  cellsByte := by kernel_rfl
  sizeByte := by kernel_rfl
  neB5 := by decide }
theorem sh_repeat (s : ByteArray) (c : Nat) (w : World) (hc : c ≤ 9223372036854775807) (hlen : s.size * c ≤ 140737488355328) :
    Calls Tryz.prog 29 #[.string s, .int .i64 c] w fun e w' => e = .returned (.string ⟨(Lib.repeatL s.data.toList c).toArray⟩) ∧ Below w.heap.size w w' := Any.strings_Repeat Sh.lays105 Sh.extra105 s c w hc hlen
def Sh.lays264_ren : Go.Shelf.Ren := ⟨fun | 264 => 87 | n => n, fun | 53 => 33 | 46 => 107 | n => n, fun | n => n⟩
theorem Sh.lays264 : Go.Proofs.Lays.n264 Tryz.prog Sh.lays264_ren := {
  mixed := by kernel_rfl
  f264 := Tryz.func87.trans (congrArg some (by kernel_rfl))
  t46 := Tryz.underlying107
  a46 := Tryz.isAgg107
  z46 := Tryz.sizeOf107
  v46 := Tryz.zeroValue107
  t53 := Tryz.underlying33
  a53 := Tryz.isAgg33
  z53 := Tryz.sizeOf33
  v53 := Tryz.zeroValue33 }
def Sh.lays212_ren : Go.Shelf.Ren := ⟨fun | 212 => 62 | 263 => 86 | 264 => 87 | n => n, fun | 46 => 107 | 51 => 75 | 146 => 129 | 53 => 33 | 148 => 131 | n => n, fun | n => n⟩
theorem Sh.lays212 : Go.Proofs.Lays.n212 Tryz.prog Sh.lays212_ren := {
  mixed := by kernel_rfl
  f212 := Tryz.func62.trans (congrArg some (by kernel_rfl))
  f263 := Tryz.func86.trans (congrArg some (by kernel_rfl))
  f264 := Tryz.func87.trans (congrArg some (by kernel_rfl))
  t46 := Tryz.underlying107
  a46 := Tryz.isAgg107
  z46 := Tryz.sizeOf107
  v46 := Tryz.zeroValue107
  t51 := Tryz.underlying75
  a51 := Tryz.isAgg75
  z51 := Tryz.sizeOf75
  v51 := Tryz.zeroValue75
  t53 := Tryz.underlying33
  a53 := Tryz.isAgg33
  z53 := Tryz.sizeOf33
  v53 := Tryz.zeroValue33
  t146 := Tryz.underlying129
  a146 := Tryz.isAgg129
  z146 := Tryz.sizeOf129
  v146 := Tryz.zeroValue129
  t148 := Tryz.underlying131
  a148 := Tryz.isAgg131
  z148 := Tryz.sizeOf131
  v148 := Tryz.zeroValue131 }
theorem sh_mul64 (x y : Nat) (hx : x < 18446744073709551616) (hy : y < 18446744073709551616) (w : World) :
    Calls Tryz.prog 87 #[.int .u64 x, .int .u64 y] w fun e w' => e = .returned (.tuple #[.int .u64 ((x * y / 18446744073709551616 : Nat) : Int), .int .u64 ((x * y % 18446744073709551616 : Nat) : Int)]) ∧ w' = w := Any.bits_Mul64 Sh.lays264 x y hx hy w
end Go.Proofs.YtcbkbjpdfanjpaaGreatDoor

namespace Go.Proofs.YtcbkbjpdfanjpaaGreatDoor
open Go.RowKit
def by8 (l : List UInt8) : ByteArray := ⟨l.toArray⟩
theorem by8_l (l : List UInt8) : (by8 l).data.toList = l := rfl
theorem by8_of (s : ByteArray) : by8 s.data.toList = s := by simp [by8]
theorem by8_size (l : List UInt8) : (by8 l).size = l.length := by simp [by8, ByteArray.size]
theorem by8_take (l : List UInt8) (k : Nat) : (by8 l).extract 0 k = by8 (l.take k) := by
  apply ByteArray.ext
  simp [by8, ByteArray.data_extract]
theorem by8_drop (l : List UInt8) (k n : Nat) (hn : n = l.length) : (by8 l).extract k n = by8 (l.drop k) := by
  apply ByteArray.ext
  apply Array.ext'
  simp only [by8, ByteArray.data_extract, Array.toList_extract, List.extract_eq_take_drop]
  rw [List.take_of_length_le (by rw [List.length_drop]; omega)]
theorem by8_mid (l : List UInt8) (i j : Nat) : (by8 l).extract i j = by8 ((l.drop i).take (j - i)) := by
  apply ByteArray.ext
  apply Array.ext'
  simp only [by8, ByteArray.data_extract, Array.toList_extract, List.extract_eq_take_drop]
theorem by8_app (a b : List UInt8) : by8 a ++ by8 b = by8 (a ++ b) := by
  apply ByteArray.ext
  simp [by8, ByteArray.data_append]
theorem by8_empty (l : List UInt8) : (by8 l).toList.isEmpty = decide (l.length = 0) := by
  rw [ByteArray.toList_eq]
  show l.isEmpty = _
  cases l <;> rfl
theorem by8_inj {a b : List UInt8} (h : by8 a = by8 b) : a = b := by
  have := congrArg (fun s : ByteArray => s.data.toList) h
  exact this
def sLen8 : Value → Nat
  | .string s => s.size
  | _ => 0
/-- a number's last byte -/
def lo8 (z : Int) : UInt8 := UInt8.ofNat (z % 256).toNat
theorem lo8_val (z : Int) : IntKind.u8.wrap z = ((lo8 z).toNat : Nat) := by
  rw [IntKind.wrap_u8]
  unfold lo8
  have h0 : 0 ≤ z % 256 := Int.emod_nonneg _ (by decide)
  have h1 : z % 256 < 256 := Int.emod_lt_of_pos _ (by decide)
  rw [UInt8.toNat_ofNat']
  omega
theorem lo8_val' (z : Int) : z % 256 = ((lo8 z).toNat : Nat) := by rw [← lo8_val, IntKind.wrap_u8]
theorem byv_app (a b : List UInt8) : byv (a ++ b) = byv a ++ byv b := by simp [byv]
theorem byv_cells (l : List UInt8) : Lib.byteCells l = byv l := rfl
end Go.Proofs.YtcbkbjpdfanjpaaGreatDoor
