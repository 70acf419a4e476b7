/-
SpeakParts answers true wherever its tables are laid.
-/
import Derived.Test.YtcbkbjpdfanjpaaGreatDoorPk45
import Derived.Test.YtcbkbjpdfanjpaaGreatDoorPk47
namespace Go.Proofs.YtcbkbjpdfanjpaaGreatDoor
open Go.RowKit Sha Cha HelP
set_option maxRecDepth 100000
namespace Sp
theorem err_at {W : World} {n : String} {text : List UInt8} {r : List (String × DataW Unit)} {g : Nat}
    (h : laidMet Tryz.prog ((n, .iface "*errors.errorString" (.ptr (.agg [.lit (.string text)]))) :: r) W) (hg : Tryz.prog.globalNamed n = some g) (ht : (Tryz.prog.globals[g]?).map (·.type) = some 30) :
    ∃ a : Addr, W.cell? ⟨g, 0, none⟩ = some (.iface 182 (.pointer (some a))) := by
  obtain ⟨a, _, hv, _⟩ := laid_sentinel (g := g) (ti := 30) (tp := 182) (te := 197) (ts := 9) h hg ht Tryz.underlying30 (typeName_ptr_named (nm := "errors.errorString") (by kernel_rfl) (by kernel_rfl) (by decide)) Tryz.underlying182 Tryz.underlying197 rfl rfl Tryz.underlying9 (by kernel_rfl) (by kernel_rfl)
  exact ⟨a, (World.var?_cell hg hv 0).trans rfl⟩
theorem parts_laid (al : Option Addr) (nl cl : Nat) (key : List UInt8) (K : Int) (ac : Option Addr) (nc cc : Nat) (W : World) (h : laidMet Tryz.prog Rows.speakPartsRow.laid W) (hk : key.length = 32) (hm : MsgsAt W al nl) (hc : CutsAt W ac nc) :
    Calls Tryz.prog 3 #[.agg (tlk al nl cl key K ac nc cc).toArray] W fun e w' => e = .returned (.bool true) ∧ Below W.heap.size W w' := by
  obtain ⟨a0, h0⟩ := err_at h.tail.tail.tail (g := 0) (by kernel_rfl) (by kernel_rfl)
  obtain ⟨a2, h2⟩ := err_at h.tail.tail.tail.tail.tail (g := 3) (by kernel_rfl) (by kernel_rfl)
  obtain ⟨a3, h3⟩ := err_at h.tail.tail.tail.tail.tail.tail (g := 2) (by kernel_rfl) (by kernel_rfl)
  obtain ⟨a11, h11⟩ := err_at h.tail.tail.tail.tail.tail.tail.tail.tail (g := 5) (by kernel_rfl) (by kernel_rfl)
  obtain ⟨ps, hl, _, _⟩ := h
  have hv : LV [("speakeasy/chacha.begin", Lib.tabData .u32 begL), ("speakeasy/chacha.order", .agg (ordG.map (Lib.tabData .i64))), ("unicode/utf8.acceptRanges", Rows.laid_unicode_utf8_acceptRanges), ("speakeasy/api.ErrArg", Rows.laid_speakeasy_api_ErrArg), ("speakeasy/api.ErrEnd", Rows.laid_speakeasy_api_ErrEnd), ("speakeasy/api.ErrForm", Rows.laid_speakeasy_api_ErrForm), ("speakeasy/api.ErrBig", Rows.laid_speakeasy_api_ErrBig), ("speakeasy/api.ErrMac", Rows.laid_speakeasy_api_ErrMac), ("speakeasy/api.ErrVersion", Rows.laid_speakeasy_api_ErrVersion), ("speakeasy/api.ErrKind", Rows.laid_speakeasy_api_ErrKind), ("speakeasy/message.rows", Rows.laid_speakeasy_message_rows), ("unicode/utf8.first", Rows.laid_unicode_utf8_first)] W := ⟨ps, hl⟩
  obtain ⟨b1, b2⟩ := beg_of hv
  obtain ⟨o1, o2⟩ := ord_of hv.tail
  have hr := rows_of hv.tail.tail.tail.tail.tail.tail.tail.tail.tail.tail
  refine parts_ok (fun i => if i = 0 then a0 else if i = 2 then a2 else if i = 3 then a3 else a11) begL ordL key K al nl cl ac nc cc W ⟨⟨h0, h2, h3, h11⟩, ⟨⟨by decide, by decide, fun j => ?_, b1, o1⟩, b2, o2⟩, hr, hm, hc, hk⟩
  rcases Nat.lt_or_ge j 32 with h | h
  · have : ∀ j : Fin 32, ordL.getD j.val 0 < 16 := by decide
    exact this ⟨j, h⟩
  · rw [List.getD_eq_getElem?_getD, List.getElem?_eq_none (show ordL.length ≤ j from h)]; decide
end Sp
end Go.Proofs.YtcbkbjpdfanjpaaGreatDoor
