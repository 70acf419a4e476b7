/-
  DERIVED. GIVEN WITH THE SEED: THE PROGRAM's TIES (one call each: nine closed facts by the kernel) AND EACH ROW's TIE, after the 31st guide's Derived/Test/Toyas{Tie, Card}.lean. No idea stands in it: it is a product of the set-up. Laid BY PROGRAM, IN A SANDBOX (cutbox-door.mjs). By AI agents, Wed Nov 11 2026. No macro, syntax, notation, axiom, sorry.
-/
import Derived.Test.YtppjniogblgdcaaDoorRows
import Derived.LaidByTextLater
import Derived.SevenTiedAt
import Derived.LaidSub
import Derived.LaidOnce
namespace Go.Proofs.YtppjniogblgdcaaDoor
open Go
set_option maxRecDepth 100000
theorem seatTie1 : Tryd.prog.laidByTextLater [("speakeasy/chacha.begin", Rows.laid_speakeasy_chacha_begin), ("speakeasy/chacha.order", Rows.laid_speakeasy_chacha_order), ("speakeasy/api.ErrEnd", Rows.laid_speakeasy_api_ErrEnd), ("speakeasy/api.ErrMac", Rows.laid_speakeasy_api_ErrMac), ("speakeasy/sha2.words", Rows.laid_speakeasy_sha2_words), ("speakeasy/sha2.first", Rows.laid_speakeasy_sha2_first)] [.widerDeep, .data, .sentinel, .sentinel, .data, .data] true :=
  Program.laidByTextLater_by_one 75 8 81 (by kernel_rfl) (by kernel_rfl) (by kernel_rfl) (by kernel_rfl) (by kernel_rfl) (by kernel_rfl) (fun _ _ => by kernel_rfl)
theorem noOwnUnsafe : Tryd.pinned.checked.prog.headLifts.contains "ownunsafe" = false := by kernel_rfl
theorem tie : Tryd.prog.laidByTextLater [("speakeasy/chacha.begin", Rows.laid_speakeasy_chacha_begin), ("speakeasy/chacha.order", Rows.laid_speakeasy_chacha_order), ("speakeasy/api.ErrEnd", Rows.laid_speakeasy_api_ErrEnd), ("speakeasy/api.ErrMac", Rows.laid_speakeasy_api_ErrMac), ("speakeasy/sha2.words", Rows.laid_speakeasy_sha2_words), ("speakeasy/sha2.first", Rows.laid_speakeasy_sha2_first)] [.widerDeep, .data, .sentinel, .sentinel, .data, .data] true :=
  Program.laidByTextLater.sub seatTie1 ["speakeasy/chacha.begin", "speakeasy/chacha.order", "speakeasy/api.ErrEnd", "speakeasy/api.ErrMac", "speakeasy/sha2.words", "speakeasy/sha2.first"] (by kernel_rfl) (by kernel_rfl)
theorem speakSealed_row_tie : Rows.speakSealedRow.laidByTextAt .later Tryd.pinned [.widerDeep, .data, .sentinel, .sentinel, .data, .data] true :=
  OpenClaim.laidByTextAt_later rfl rfl tie noOwnUnsafe
theorem speakSealedUpto_row_tie : Rows.speakSealedUptoRow.laidByTextAt .later Tryd.pinned [.widerDeep, .data, .sentinel, .sentinel, .data, .data] true :=
  OpenClaim.laidByTextAt_later rfl rfl tie noOwnUnsafe
end Go.Proofs.YtppjniogblgdcaaDoor
