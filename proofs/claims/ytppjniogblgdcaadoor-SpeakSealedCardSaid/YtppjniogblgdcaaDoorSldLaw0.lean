/-
SpeakSealed answers true wherever its tables are laid.
-/
import Derived.Test.YtppjniogblgdcaaDoorSldOpen
namespace Go.Proofs.YtppjniogblgdcaaDoor
open Go.RowKit Cha Sha
set_option maxRecDepth 100000
def dInts : DataW Unit → List Int
  | .agg l => l.map fun | .lit (.int _ z) => z | _ => 0
  | _ => []
def wordsL : List Int := dInts Rows.laid_speakeasy_sha2_words
def firstL : List Int := dInts Rows.laid_speakeasy_sha2_first
theorem words_len : wordsL.length = 80 := by kernel_rfl
theorem first_len : firstL.length = 8 := by kernel_rfl
theorem sealed_law (s0 s1 s2 : ByteArray) (W : World) (h : LV Rows.speakSealedRow.laid W) :
    Calls Tryd.prog 3 #[.string s0, .string s1, .string s2] W fun e w' => e = .returned (.bool true) ∧ Below W.heap.size W w' := by
  have h0 : LV [("speakeasy/chacha.begin", Lib.tabData .u32 begL), ("speakeasy/chacha.order", .agg (ordG.map (Lib.tabData .i64))), ("speakeasy/api.ErrEnd", Rows.laid_speakeasy_api_ErrEnd), ("speakeasy/api.ErrMac", Rows.laid_speakeasy_api_ErrMac), ("speakeasy/sha2.words", Lib.tabData .u64 wordsL), ("speakeasy/sha2.first", Lib.tabData .u64 firstL)] W := h
  obtain ⟨b1, b2⟩ := beg_of h0
  obtain ⟨o1, o2⟩ := ord_of h0.tail
  have hW := LV.tab (g := 5) (t := 96) (e := 64) (n := 80) (by kernel_rfl) (by kernel_rfl) Tryd.underlying96 Tryd.underlying64 (by kernel_rfl) (by kernel_rfl) h0.tail.tail.tail.tail
  have hF := LV.tab (g := 4) (t := 74) (e := 64) (n := 8) (by kernel_rfl) (by kernel_rfl) Tryd.underlying74 Tryd.underlying64 (by kernel_rfl) (by kernel_rfl) h0.tail.tail.tail.tail.tail
  have hw := fun i (hi : i < 80) => hW.cell (g := 5) (by kernel_rfl) i (by rw [words_len]; exact hi)
  have hf := fun i (hi : i < 8) => hF.cell (g := 4) (by kernel_rfl) i (by rw [first_len]; exact hi)
  exact sealed_ok wordsL firstL begL ordL s0 s1 s2 W ⟨words_len, first_len, hw, hf⟩ ⟨cell_lt' (hw 0 (by decide)), cell_lt' (hf 0 (by decide))⟩ ⟨by decide, by decide, fun j => by
    rcases Nat.lt_or_ge j 32 with h | h
    · have : ∀ j : Fin 32, ordL.getD j.val 0 < 16 := by decide
      exact this ⟨j, h⟩
    · rw [List.getD_eq_getElem?_getD, List.getElem?_eq_none (show ordL.length ≤ j from h)]; decide, b1, o1⟩ ⟨b2, o2⟩
end Go.Proofs.YtppjniogblgdcaaDoor
