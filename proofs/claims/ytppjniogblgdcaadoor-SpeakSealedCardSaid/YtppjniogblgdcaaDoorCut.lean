/-
The contract of the laws' Cut.
-/
import Derived.Test.YtppjniogblgdcaaDoorRows
import Derived.Test.YtppjniogblgdcaaDoorCom
namespace Go.Proofs.YtppjniogblgdcaaDoor
open Go.RowKit

set_option maxHeartbeats 400000 in
theorem cut_ok (s : ByteArray) (n : Nat) (w : World) :
    Calls Tryd.prog 4 #[.string s, .int .i64 n] w fun e w' => e = .returned (.string (s.extract 0 n)) ∧ w = w' := by
  have H1 := Lib.hid (show s.size ≤ n → s.extract 0 n = s from fun h => by
    apply ByteArray.ext; simp [ByteArray.data_extract]; omega)
  go_enter Tryd.func4, Tryd.ntmps4
  go_wp2
  · go_ret
    exact ⟨rfl, rfl⟩
  · go_ret
    exact ⟨by rw [H1.out (by omega)]; rfl, rfl⟩
end Go.Proofs.YtppjniogblgdcaaDoor
