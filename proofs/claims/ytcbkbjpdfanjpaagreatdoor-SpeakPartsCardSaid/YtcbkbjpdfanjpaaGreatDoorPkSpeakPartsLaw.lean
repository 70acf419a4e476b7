/-
What is proved: SpeakParts answers true for any talk, and leaves it as it was; conditions: none beyond the given card's own.
-/
import Derived.Test.YtcbkbjpdfanjpaaGreatDoorCards
import Derived.Test.YtcbkbjpdfanjpaaGreatDoorTie
import Derived.Lay
import Derived.Test.YtcbkbjpdfanjpaaGreatDoorPk48
import Derived.Test.YtcbkbjpdfanjpaaGreatDoorPk32
namespace Go.Proofs.YtcbkbjpdfanjpaaGreatDoor.speakParts
open Go.RowKit Go.ChangeShapes Go.WideShapes Go.ChangeMaps

theorem own : ownKnob Tryz.prog.godebug = none := by kernel_rfl
theorem laidOut : laidOutB Tryz.prog = true := by kernel_rfl

set_option maxRecDepth 100000 in
theorem lifted (os : Os) (started : os.Started) (H : Type) (enc : TypeId × Value → H) :
    ReturnsInHanded {} Tryz.checked os 3 .any (fun w args => (Rows.speakPartsSpec.pre enc Tryz.prog Tryz.f3 [] false w args ∧ laidMetH Tryz.prog Rows.speakPartsRow.laid w) ∧ sizedMet enc Tryz.prog Tryz.f3 (OpenSpec.ofChange Rows.speakPartsSpec) false w args)
      (Rows.speakPartsSpec.post enc Tryz.prog Tryz.f3 false true false false) := by
  refine law_lift (C := Tryz.checked) (tb := 4) own started (by kernel_rfl) Tryz.func3 laidOut rfl (by kernel_rfl) Tryz.underlying4 (by kernel_rfl) (fun ds h => ?_)
    (ChangeSpec.witness_shaped (enc := enc) (C := Tryz.checked) (os := os) (X := fun w _ => laidMetH Tryz.prog Rows.speakPartsRow.laid w) false (World.laidAll Tryz.prog os Rows.speakPartsRow.laid) #[.agg (.slice none 0 0 :: (List.replicate 32 (.int .u8 0) ++ [.int .i64 0, .slice none 0 0])).toArray] 8 (World.laidAll_os _ _ _)
      (World.shaped_of_ZipB (by kernel_rfl) (by kernel_rfl)) (by kernel_rfl) (by kernel_rfl) (by kernel_rfl)
      (by rw [MakeChecks.laidMetH_plain _ _ _ (by kernel_rfl)]; exact laidMet_laidAll _ (by kernel_rfl) (by kernel_rfl))) ?_
  · match ds, h with
    | [_], _ => rfl
  intro W base args ds p hval0 hA hlt hsz hL
  have hval : ∀ (j : Nat) t v, Tryz.f3.params[j]? = some t → args[j]? = some v → Value.okWide Tryz.prog W .any base t v := hval0
  have hA : DataW.TrodAll enc Tryz.prog W 0 (fun _ => true) true Tryz.f3.params.toList args.toList ds p := hA
  rw [Tryz.params3] at hA hval
  obtain ⟨v0, d0, rfl, rfl, h0⟩ := trodAll_one hA
  obtain ⟨al, nl, cl, key, K, ac, nc, cc, rfl, hk, hm, hc⟩ := Sp.open_talk (hval 0 26 v0 rfl rfl) h0
  have hL2 : laidMet Tryz.prog Rows.speakPartsRow.laid W := (show laidMetH Tryz.prog Rows.speakPartsRow.laid W = laidMet Tryz.prog Rows.speakPartsRow.laid W from MakeChecks.laidMetH_plain _ _ _ (by kernel_rfl)) ▸ hL
  exact Sp.parts_laid al nl cl key K ac nc cc W hL2 hk hm hc

theorem said : Rows.SpeakPartsSaid :=
  OpenClaim.holds_of_wide 3 Tryz.f3 rfl rfl rfl rfl rfl rfl rfl ⟨rfl, rfl, rfl, rfl, rfl⟩ rfl rfl rfl rfl rfl (by kernel_rfl) Tryz.func3 (by kernel_rfl)
    (of_decide_eq_true (by kernel_rfl)) (by unfold Func.isWrapper; first | (rw [if_pos (by decide +kernel)]; kernel_rfl) | (rw [if_neg (by decide +kernel)]; exact ⟨rfl, rfl⟩))
    (fun os started H enc _ => lifted os started H enc)

theorem plain (f : FuncId) (fn : Func) (hf : Tryz.pinned.checked.prog.funcNamed "speakeasy/speakeasytop.SpeakParts" = some f) (hfn : Tryz.pinned.checked.prog.funcs[f]? = some fn) :
    false = Tryz.pinned.checked.prog.looks [] ∧ ∀ (j : Nat) t, fn.params[j]? = some t → Tryz.pinned.checked.prog.wantsStandIn t = false := by
  obtain rfl : f = 3 := Option.some.inj ((show Tryz.prog.funcNamed "speakeasy/speakeasytop.SpeakParts" = some 3 by kernel_rfl).symm.trans hf) |>.symm
  obtain rfl : fn = Tryz.f3 := (Option.some.inj (Tryz.func3.symm.trans hfn)).symm
  refine ⟨by kernel_rfl, fun j t ht => ?_⟩
  have h : (Tryz.f3.params.toList.all fun t => !Tryz.prog.wantsStandIn t) = true := by kernel_rfl
  have := List.all_eq_true.1 h t (by simpa using Array.mem_of_getElem? ht)
  have this' : Tryz.prog.wantsStandIn t = false := by simpa using this
  exact this'

theorem holds : Rows.SpeakPartsCardSaid :=
  Claim7.holds_tied_plain_at .later [] _ _ _ _ said (fun _ h => by cases h) (by kernel_rfl) (fun _ h => by cases h) speakParts_row_tie rfl ⟨rfl, rfl⟩ (by kernel_rfl) rfl plain (by kernel_rfl)
#print axioms holds
end Go.Proofs.YtcbkbjpdfanjpaaGreatDoor.speakParts
