/-
hmac: pad.
-/
import Derived.Test.YtppjniogblgdcaaDoorPol5
import Derived.Lib.BufferWrite
namespace Go.Proofs.YtppjniogblgdcaaDoor
open Go.RowKit Cha Sha
set_option maxRecDepth 100000
theorem Blk.copy8 {w : World} {b : Nat} {t : TypeId} {L : List UInt8} (h : Blk w b t (byv L)) (ty : TypeId) (K : List UInt8) (n : Nat) (hn : n = L.length) (hk : K.length ≤ n) :
    (Builtin.copy_ #[25, 9] ty #[.slice (some ⟨b, 0, none⟩) n n, .string (by8 K)]).run Tryd.prog w = .ok (goInt K.length) (w.setRow b (byv (K ++ L.drop K.length)).toArray) := by
  have hs := by8_size K
  have := Lib.run_copy_row_string (P := Tryd.prog) w 25 9 ty 5 b 0 n n (by8 K) (byv L).toArray t Tryd.underlying25 (by kernel_rfl) h (by rw [hs]; exact hk) (by
    rw [hs]; simp only [List.size_toArray, byv_len]; omega)
  rw [this, hs]
  congr 3
  show List.take 0 (byv L) ++ Lib.byteCells K ++ List.drop (0 + K.length) (byv L) = _
  rw [List.take_zero, List.nil_append, byv_cells, byv_app, Nat.zero_add]
  congr 1
  simp [byv, List.map_drop]
namespace Hm
def S256 (T F : List Int) (m : List UInt8) : List UInt8 := sumF false T F m
def short (T F : List Int) (key : List UInt8) : List UInt8 := if 64 < key.length then S256 T F key else key
def fill64 (K : List UInt8) : List UInt8 := K ++ (List.replicate 64 (0 : UInt8)).drop K.length
theorem fill64_len (K : List UInt8) (h : K.length ≤ 64) : (fill64 K).length = 64 := by
  unfold fill64
  rw [List.length_append, List.length_drop, List.length_replicate]; omega
def padL (T F : List Int) (key : List UInt8) (by_ : UInt8) : List UInt8 :=
  upto8 (fun q => (fill64 (short T F key)).getD q 0 ^^^ by_) (fun q => (fill64 (short T F key)).getD q 0) 64 64
theorem padL_len (T F : List Int) (key : List UInt8) (b : UInt8) : (padL T F key b).length = 64 := upto8_len _ _ _ _
end Hm
open Hm
theorem catL_one (m : List UInt8) : catL [by8 m] = m := by simp [catL, by8]
theorem catL_cons (m : List UInt8) (xs : List ByteArray) : catL (by8 m :: xs) = m ++ catL xs := by simp [catL, by8]
/-- the globals of sha2 lie in the world -/
def ShaG (w : World) : Prop := 5 < w.heap.size ∧ 4 < w.heap.size
theorem sum256_at {T F : List Int} {w0 : World} (hT : ShaT w0 T F) (hg : ShaG w0) (bk : Nat) (ty : TypeId) (xs : List ByteArray) (n c : Nat) (hn : n = xs.length) (hxl : xs.length ≤ 1000) (hcap : xs.length ≤ c) (hlen : (catL xs).length ≤ 1000000)
    {w : World} (hb : Below w0.heap.size w0 w) (hB : Blk w bk ty (xs.map .string)) :
    Calls Tryd.prog 6 #[.slice (some ⟨bk, 0, none⟩) n c] w fun e w' => e = .returned (.agg (byv (S256 T F (catL xs))).toArray) ∧ Rw w w' := by
  have hs := hb.size
  have := hg.1
  have := hg.2
  subst hn
  refine sum256_ok T F bk 0 c xs w (hT.below hb) (fun j x hj => ?_) hB.lt hxl hcap hlen (by omega) (by omega)
  rw [Nat.zero_add]
  exact hB.cell j _ (by rw [List.getElem?_map, hj]; rfl)
theorem S256_len {w : World} {T F : List Int} (hT : ShaT w T F) (m : List UInt8) : (S256 T F m).length = 32 := sum256_len T F m hT.f
set_option maxHeartbeats 4000000 in
theorem pad_ok (T F : List Int) (key : List UInt8) (b : UInt8) (hl : key.length ≤ 100000) (w : World) (hT : ShaT w T F) (hg : ShaG w) :
    Calls Tryd.prog 27 #[.string (by8 key), .int .u8 (b.toNat : Nat)] w fun e w' => e = .returned (.string (by8 (padL T F key b))) ∧ Below w.heap.size w w' := by
  obtain ⟨n, hn⟩ : ∃ n, n = key.length := ⟨_, rfl⟩
  have hS : (by8 key).size = n := by rw [by8_size, hn]
  have hn1 : n ≤ 100000 := by omega
  obtain ⟨K0, hK0⟩ : ∃ K0, K0 = short T F key := ⟨_, rfl⟩
  have hK0l : K0.length ≤ 64 := by
    rw [hK0]; unfold short
    split
    · rw [S256_len hT]; decide
    · omega
  obtain ⟨G, hG⟩ : ∃ G : Nat → UInt8, G = fun q => (fill64 K0).getD q 0 := ⟨_, rfl⟩
  obtain ⟨H, hH⟩ : ∃ H : Nat → UInt8, H = fun q => (fill64 K0).getD q 0 ^^^ b := ⟨_, rfl⟩
  have hgoal : padL T F key b = upto8 H G 64 64 := by rw [hH, hG, hK0]; rfl
  have h0 : fill64 K0 = upto8 H G 64 0 := by
    rw [hG]
    have := upto8_zero H (fill64 K0)
    rw [fill64_len _ hK0l] at this
    exact this.symm
  rw [hgoal]
  have HGH : Hid (∀ q, H q = G q ^^^ b) := Lib.hid (fun q => by rw [hH, hG])
  have HK := Lib.hid (And.intro hK0 (And.intro hn (And.intro h0 hK0l)))
  have HT := Lib.hid (And.intro hT hg)
  clear hK0 hn hG hH hgoal h0 hK0l hl hT hg
  go_enter Tryd.func27, Tryd.ntmps27
  go_upto_if 10 with fail
  go_cut [0, 5] (fun v0 v5 wx => v0 = .string (by8 K0) ∧ Hid (Below w.heap.size w wx))
  case first =>
    rcases Nat.lt_or_ge 64 n with h | h
    · rw [show decide ((64 : Int) < (n : Int)) = true from decide_eq_true (by omega)]
      have hk : K0 = S256 T F key := by rw [HK.out.1]; unfold short; rw [if_pos (by rw [← HK.out.2.1]; exact h)]
      have hl32 : Hid ((byv (S256 T F key)).length = 32) := Lib.hid (by rw [byv_len]; exact S256_len HT.out.1 _)
      have hsum : Hid (∀ w', Below w.heap.size w w' → ∀ bk ty, Blk w' bk ty [.string (by8 key)] → Calls Tryd.prog 6 #[.slice (some ⟨bk, 0, none⟩) 1 1] w' fun e w'' => e = .returned (.agg (byv (S256 T F key)).toArray) ∧ Rw w' w'') := Lib.hid fun w' hb bk ty hB => by
        have := sum256_at HT.out.1 HT.out.2 bk ty [by8 key] 1 1 rfl (Nat.le_of_ble_eq_true rfl) (Nat.le_of_ble_eq_true rfl) (by rw [catL_one, ← HK.out.2.1]; omega) hb hB
        rw [catL_one] at this
        exact this
      generalize S256 T F key = R at *
      have HKK := Lib.hid hk
      clear hk h
      have hZ : Hid ((byv (List.replicate 32 (0 : UInt8))).length = 32) := Lib.hid rfl
      go_upto_region 3 with (first
        | (go_at_call 6; refine (hsum.out _ (below1 _ _) _ _ (Blk.new w _ [.string (by8 key)])).mono ?_; rintro e w2 ⟨rfl, hb2⟩; have H2 := Lib.hid (Rw.out (below1 w _) hb2); clear hb2)
        | refine store_blk (Blk.new w2 24 (byv (List.replicate 32 0))) arr32_size' hl32.out hZ.out (byv_one _) rfl rfl rfl rfl ?_)
      refine wp_gen (fun wx => Blk wx w2.heap.size 24 (byv R) ∧ Below w.heap.size w wx) ⟨(Blk.new w2 24 (byv (List.replicate 32 0))).setRow (byv R), below_row (Rw.out H2.out (below1 _ _)) _ _ H2.out.size⟩ ?_
      rintro w3 ⟨B3, BW3⟩
      have hcv := B3.str8 32 (by rw [← hl32.out, byv_len])
      have H3 := Lib.hid BW3
      clear BW3
      go_wp2_with fail
      go_meet
      exact ⟨by rw [HKK.out], H3⟩
    · rw [show decide ((64 : Int) < (n : Int)) = false from decide_eq_false (by omega)]
      have hk : K0 = key := by rw [HK.out.1]; unfold short; rw [if_neg (by rw [← HK.out.2.1]; omega)]
      have HKK := Lib.hid hk
      clear hk
      go_wp2_with fail
      go_meet
      exact ⟨by rw [HKK.out], Lib.hid (Below.refl _ _)⟩
  case rest =>
    obtain ⟨rfl, hcb⟩ := hcut
    go_upto_region 5 with fail
    refine wp_gen (fun wx => Blk wx wc.heap.size 30 (byv (List.replicate 64 0)) ∧ Below w.heap.size w wx) ⟨Blk.new wc _ _, Rw.out hcb.out (below1 _ _)⟩ ?_
    rintro w4 ⟨B4, BW4⟩
    have hcp := B4.copy8 3 K0 64 rfl HK.out.2.2.2
    have hob := hcb.out.size
    generalize wc.heap.size = ob at *
    have H5 : Hid (Blk (w4.setRow ob (byv (upto8 H G 64 0)).toArray) ob 30 (byv (upto8 H G 64 0)) ∧ Below w.heap.size w (w4.setRow ob (byv (upto8 H G 64 0)).toArray)) := Lib.hid ⟨B4.setRow _, below_row BW4 _ _ hob⟩
    rw [show K0 ++ List.drop K0.length (List.replicate 64 0) = upto8 H G 64 0 from HK.out.2.2.1] at hcp
    clear B4 BW4
    go_upto_region 6 with fail
    generalize w4.setRow ob (byv (upto8 H G 64 0)).toArray = w5 at *
    clear hcp
    go_wp2_with fail
    go_loopw [19] (fun v19 wx => ∃ j : Nat, v19 = .int .i64 j ∧ j ≤ 64 ∧ Hid (Blk wx ob 30 (byv (upto8 H G 64 j)) ∧ Below w.heap.size w wx)) (fun v _ => 64 - (intOf v).toNat)
    case atStart => exact ⟨0, rfl, by omega, H5⟩
    case round =>
      obtain ⟨j, rfl, hj, hs⟩ := hrel
      clear H5
      rcases Nat.lt_or_ge j 64 with h16 | h16
      · have c0 := hs.out.1.cell j _ (byv_get _ j (by rw [upto8_len]; exact h16))
        rw [upto8_get _ _ _ _ _ h16, if_neg (by omega)] at c0
        have f0 := hs.out.1.free j
        have hv := xor_u8 (G j) b
        rw [← HGH.out j] at hv
        go_upto_region 10 with fail
        have HN2 : Hid (Blk (wr.setCell ⟨ob, j, none⟩ (.int .u8 ((H j).toNat : Nat))) ob 30 (byv (upto8 H G 64 (j + 1))) ∧ Below w.heap.size w (wr.setCell ⟨ob, j, none⟩ (.int .u8 ((H j).toNat : Nat)))) := Lib.hid (by
          obtain ⟨h2, h1⟩ := hs.out
          refine ⟨?_, below_set' h1 _ _ _ hob⟩
          have := h2.set j (.int .u8 ((H j).toNat : Nat))
          rw [byv_set, upto8_set] at this
          exact this)
        clear hv c0 f0 hs
        go_wp2_with fail
        go_roundw
        case rel => exact ⟨j + 1, val_int (by omega), by omega, HN2⟩
        case measure => simp [intOf]; omega
      · obtain rfl : j = 64 := by omega
        have hcv := hs.out.1.str8 64 (by rw [upto8_len])
        go_wp2_with fail
        go_ret
        exact ⟨rfl, hs.out.2⟩
end Go.Proofs.YtppjniogblgdcaaDoor
