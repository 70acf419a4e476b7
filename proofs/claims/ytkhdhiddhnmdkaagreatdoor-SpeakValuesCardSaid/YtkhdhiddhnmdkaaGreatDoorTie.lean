/-
  DERIVED. GIVEN WITH THE SEED: THE PROGRAM's TIES (one call each: nine closed facts by the kernel) AND EACH ROW's TIE, after the 31st guide's Derived/Test/Toyas{Tie, Card}.lean. No idea stands in it: it is a product of the set-up. Laid BY PROGRAM, IN A SANDBOX (cutbox-door.mjs). By AI agents, Wed Nov 11 2026. No macro, syntax, notation, axiom, sorry.
-/
import Derived.Test.YtkhdhiddhnmdkaaGreatDoorRows
import Derived.LaidByTextLater
import Derived.SevenTiedAt
import Derived.LaidSub
import Derived.LaidOnce
namespace Go.Proofs.YtkhdhiddhnmdkaaGreatDoor
open Go
set_option maxRecDepth 100000
theorem seatTie1 : Tryz.prog.laidByTextLater [("speakeasy/chacha.begin", Rows.laid_speakeasy_chacha_begin), ("speakeasy/chacha.order", Rows.laid_speakeasy_chacha_order), ("speakeasy/scalar.order", Rows.laid_speakeasy_scalar_order), ("speakeasy/api.ErrForm", Rows.laid_speakeasy_api_ErrForm), ("speakeasy/api.ErrBig", Rows.laid_speakeasy_api_ErrBig), ("speakeasy/sha2.words", Rows.laid_speakeasy_sha2_words), ("speakeasy/sha2.first", Rows.laid_speakeasy_sha2_first)] [.widerDeep, .data, .data, .sentinel, .sentinel, .data, .data] true :=
  Program.laidByTextLater_by_one 80 8 81 (by kernel_rfl) (by kernel_rfl) (by kernel_rfl) (by kernel_rfl) (by kernel_rfl) (by kernel_rfl) (fun _ _ => by kernel_rfl)
theorem noOwnUnsafe : Tryz.pinned.checked.prog.headLifts.contains "ownunsafe" = false := by kernel_rfl
theorem tie : Tryz.prog.laidByTextLater [("speakeasy/chacha.begin", Rows.laid_speakeasy_chacha_begin), ("speakeasy/chacha.order", Rows.laid_speakeasy_chacha_order), ("speakeasy/scalar.order", Rows.laid_speakeasy_scalar_order), ("speakeasy/api.ErrForm", Rows.laid_speakeasy_api_ErrForm), ("speakeasy/api.ErrBig", Rows.laid_speakeasy_api_ErrBig), ("speakeasy/sha2.words", Rows.laid_speakeasy_sha2_words), ("speakeasy/sha2.first", Rows.laid_speakeasy_sha2_first)] [.widerDeep, .data, .data, .sentinel, .sentinel, .data, .data] true :=
  Program.laidByTextLater.sub seatTie1 ["speakeasy/chacha.begin", "speakeasy/chacha.order", "speakeasy/scalar.order", "speakeasy/api.ErrForm", "speakeasy/api.ErrBig", "speakeasy/sha2.words", "speakeasy/sha2.first"] (by kernel_rfl) (by kernel_rfl)
theorem speakValues_row_tie : Rows.speakValuesRow.laidByTextAt .later Tryz.pinned [.widerDeep, .data, .data, .sentinel, .sentinel, .data, .data] true :=
  OpenClaim.laidByTextAt_later rfl rfl tie noOwnUnsafe
theorem speakValuesUpto_row_tie : Rows.speakValuesUptoRow.laidByTextAt .later Tryz.pinned [.widerDeep, .data, .data, .sentinel, .sentinel, .data, .data] true :=
  OpenClaim.laidByTextAt_later rfl rfl tie noOwnUnsafe
end Go.Proofs.YtkhdhiddhnmdkaaGreatDoor
