/-
What is proved: KeeperPlays answers true for every config and every list of numbers, and leaves its arguments as they were; conditions: none beyond the given row's own.
-/
import Derived.Test.YtaenfkekdhnakaaKPlays
import Derived.Test.YtaenfkekdhnakaaFrame6
namespace Go.Proofs.Ytaenfkekdhnakaa.keeperPlays
open Go.RowKit Go.ChangeShapes Go.WideShapes Go.ChangeMaps

theorem own : ownKnob Try.prog.godebug = none := by kernel_rfl
theorem laidOut : laidOutB Try.prog = true := by kernel_rfl

set_option maxRecDepth 100000 in
theorem lifted (os : Os) (started : os.Started) (H : Type) (enc : TypeId × Value → H) :
    ReturnsInHanded {} Try.checked os 3 .any (Rows.keeperPlaysSpec.pre6 enc Try.prog Try.f3 [] false)
      (Rows.keeperPlaysSpec.post enc Try.prog Try.f3 false true false false) := by
  refine law_lift6 (C := Try.checked) (tb := 4) own started (by kernel_rfl) Try.func3 laidOut rfl (by kernel_rfl) Try.underlying4 (by kernel_rfl) (fun ds h => ?_)
    (ChangeSpec.witness6 (enc := enc) (C := Try.checked) false ⟨#[], #[.agg #[.slice none 0 0, .int .i64 0, .int .i64 0, .int .i64 0], .slice none 0 0], []⟩ 8 (by kernel_rfl) (by kernel_rfl) (by kernel_rfl) (by kernel_rfl)) ?_
  · match ds, h with
    | [_, _], _ => rfl
  intro W base args ds p hval0 hA hlt hsz hsh
  have hval : ∀ (j : Nat) t v, Try.f3.params[j]? = some t → args[j]? = some v → Value.okWide Try.prog W .any base t v := hval0
  have hA : DataW.TrodAll enc Try.prog W 0 (fun _ => true) true Try.f3.params.toList args.toList ds p := hA
  rw [Try.params3] at hA hval
  obtain ⟨v0, v1, d0, d1, p0, p1, rfl, rfl, rfl, h0, h1⟩ := trodAll_two hA
  obtain ⟨ao, n, cap, ns, f, m, bt, rfl, hn, hs⟩ := open_cfg (hval 0 24 v0 rfl rfl) h0
  obtain ⟨zo, len, zcap, zs, rfl, hl, hm, hcell⟩ := open_ints_at Try.underlying25 Try.underlying3 (by kernel_rfl) (hval 1 25 v1 rfl rfl) h1
  unfold maxLen at hm hn
  exact plays_ok ns ao n cap f m bt zo len zcap zs W hs (by omega) (fun k hk => let ⟨b, off, e, c, lt, _⟩ := hcell k hk; ⟨b, off, e, c, lt⟩) (by omega)

theorem said : Rows.KeeperPlaysSaid :=
  OpenClaim.holds_of_wide 3 Try.f3 rfl rfl rfl rfl rfl rfl rfl ⟨rfl, rfl, rfl, rfl, rfl⟩ rfl rfl rfl rfl rfl (by kernel_rfl) Try.func3 (by kernel_rfl)
    (of_decide_eq_true (by kernel_rfl)) (by unfold Func.isWrapper; first | (rw [if_pos (by decide +kernel)]; kernel_rfl) | (rw [if_neg (by decide +kernel)]; exact ⟨rfl, rfl⟩))
    (fun os started H enc _ => lifted os started H enc)
#print axioms said
end Go.Proofs.Ytaenfkekdhnakaa.keeperPlays
