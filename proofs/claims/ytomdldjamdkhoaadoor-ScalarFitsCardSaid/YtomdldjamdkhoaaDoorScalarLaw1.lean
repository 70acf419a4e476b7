/-
ScalarReduces answers true.
-/
import Derived.Test.YtomdldjamdkhoaaDoorScalarL
namespace Go.Proofs.YtomdldjamdkhoaaDoor
open Go.RowKit

/-! guarded operations of a quiet walk -/
theorem quiet_plainG {P : Program} {ops : Array Oper} {C : World → Prop} {a : Act} {o : Oper} {K : Act → Prop} (v : Value) (hg : Region.wanted o (yielded ops a.tmps) = true) (hv : ∀ w, C w → (execOp a.eval o).run P w = .ok (.value v) w) (h : K (a.put o.dst v)) :
    if Region.wanted o (yielded ops a.tmps) then o.quiet P a C K else K (a.put o.dst undef) := by
  rw [if_pos hg]
  exact ⟨v, fun w hw => by unfold Oper.quietAt; rw [hv w hw]; exact ⟨rfl, rfl⟩, h⟩
theorem quiet_callG {P : Program} {ops : Array Oper} {C : World → Prop} {a : Act} {o : Oper} {K : Act → Prop} (v : Value) (f : FuncId) (args : Array Value) (hg : Region.wanted o (yielded ops a.tmps) = true) (hv : ∀ w, (execOp a.eval o).run P w = .ok (.enter f args) w)
    (hc : ∀ w, C w → Calls P f args w fun e w' => e = .returned v ∧ C w') (h : K (a.put o.dst v)) : if Region.wanted o (yielded ops a.tmps) then o.quiet P a C K else K (a.put o.dst undef) := by
  rw [if_pos hg]
  exact ⟨v, fun w hw => by unfold Oper.quietAt; rw [hv w]; exact ⟨rfl, hc w hw⟩, h⟩
theorem quiet_loadG {P : Program} {ops : Array Oper} {C : World → Prop} {a : Act} {o : Oper} {K : Act → Prop} {b ty n : Nat} {e : TypeId} {x : Operand} {cs : List Value} {t : TypeId} (hb : ∀ w, C w → Blk w b t cs)
    (hu : P.underlying ty = some (.array n e)) (hi : (P.info? ty).map (·.size) = some cs.length) (hg : Region.wanted o (yielded ops a.tmps) = true) (ho : o.op = .load ty x) (hx : a.eval x = .pointer (some ⟨b, 0, none⟩))
    (h : K (a.put o.dst (.agg cs.toArray))) : if Region.wanted o (yielded ops a.tmps) then o.quiet P a C K else K (a.put o.dst undef) :=
  quiet_plainG (.agg cs.toArray) hg (fun w hw => by
    unfold execOp
    simp only [ho, hx, Instr.loadAt, Instr.sureAddr, Sem.run_bind, Sem.run_pure, Result.andThen_ok, run_loadVar_row w b t ty cs.toArray (0, 0) _ (hb w hw) hu rfl (by rw [hi]; simp)]) h

set_option maxHeartbeats 4000000 in
set_option maxRecDepth 100000 in
theorem reduces_ok (s : ByteArray) (w : World) (ho : Ordr w) (h0 : 0 < w.heap.size) :
    Calls Tryd.prog 3 #[.string s] w fun e w' => e = .returned (.bool true) ∧ Below w.heap.size w w' := by
  have HO := Lib.hid ho
  clear ho
  go_enter Tryd.func3, Tryd.ntmps3
  go_wp2_with fail
  refine (awake_ok _ HO.out h0).mono ?_
  rintro e w1 ⟨rfl, hb1⟩
  go_wp2_with fail
  refine (cut80_ok s _).mono ?_
  rintro e w2 ⟨rfl, rfl⟩
  generalize cutN s 80 = t
  go_wp2_with fail
  refine (reduce_ok t w1 (HO.out.below hb1 h0) (Nat.lt_of_lt_of_le h0 hb1.size)).mono ?_
  rintro e w3 ⟨rfl, hb3⟩
  have hB3 := hb1.trans (hb3.mono hb1.size)
  have HL : Hid ((bvals (leBytes (le8 (cut64 t).data.toList % Lq) 32)).length = 32) := by simp [Hid, bvals, leBytes]
  have HB := Lib.hid (Blk.new w3 24 [Value.int .u8 0, Value.int .u8 0, Value.int .u8 0, Value.int .u8 0, Value.int .u8 0, Value.int .u8 0, Value.int .u8 0, Value.int .u8 0, Value.int .u8 0, Value.int .u8 0, Value.int .u8 0, Value.int .u8 0, Value.int .u8 0, Value.int .u8 0, Value.int .u8 0, Value.int .u8 0, Value.int .u8 0, Value.int .u8 0, Value.int .u8 0, Value.int .u8 0, Value.int .u8 0, Value.int .u8 0, Value.int .u8 0, Value.int .u8 0, Value.int .u8 0, Value.int .u8 0, Value.int .u8 0, Value.int .u8 0, Value.int .u8 0, Value.int .u8 0, Value.int .u8 0, Value.int .u8 0])
  have hB4 := (hB3.alloc hB3.size (.cells ([Value.int .u8 0, Value.int .u8 0, Value.int .u8 0, Value.int .u8 0, Value.int .u8 0, Value.int .u8 0, Value.int .u8 0, Value.int .u8 0, Value.int .u8 0, Value.int .u8 0, Value.int .u8 0, Value.int .u8 0, Value.int .u8 0, Value.int .u8 0, Value.int .u8 0, Value.int .u8 0, Value.int .u8 0, Value.int .u8 0, Value.int .u8 0, Value.int .u8 0, Value.int .u8 0, Value.int .u8 0, Value.int .u8 0, Value.int .u8 0, Value.int .u8 0, Value.int .u8 0, Value.int .u8 0, Value.int .u8 0, Value.int .u8 0, Value.int .u8 0, Value.int .u8 0, Value.int .u8 0]).toArray 24))
  have HV := Lib.hid (show leBytes (le8 (leBytes (le8 (cut64 t).data.toList % Lq) 32) % Lq) 32 = leBytes (le8 (cut64 t).data.toList % Lq) 32 ∧ le8 (leBytes (le8 (cut64 t).data.toList % Lq) 32) < Lq from by
    have h : le8 (leBytes (le8 (cut64 t).data.toList % Lq) 32) = le8 (cut64 t).data.toList % Lq := by
      rw [le8_leBytes, Nat.mod_eq_of_lt (Nat.lt_trans (Nat.mod_lt _ Lq_pos) (by decide +kernel))]
    rw [h, Nat.mod_mod]
    exact ⟨rfl, Nat.mod_lt _ Lq_pos⟩)
  obtain ⟨X, hX⟩ : ∃ X, X = leBytes (le8 (cut64 t).data.toList % Lq) 32 := ⟨_, rfl⟩
  have HX0 : Hid ((Ending.returned (Value.string (redOf (le8 (cut64 t).data.toList))) : Ending) = .returned (.string ⟨X.toArray⟩)) := by rw [hX]; exact rfl
  rw [← hX] at HV HL ⊢
  have HXL : Hid (X.length = 32) := by rw [hX]; exact leBytes_length _ _
  clear hX
  have hcX : cut64 ⟨X.toArray⟩ = ⟨X.toArray⟩ := if_pos (by show X.toArray.size ≤ 64; rw [List.size_toArray, HXL.out]; omega)
  have HR : Hid ((Ending.returned (ag (leBytes (le8 (cut64 ⟨X.toArray⟩).data.toList % Lq) 32)) : Ending) = .returned (.agg (bvals X).toArray)) := by
    rw [hcX]
    show Ending.returned (ag (leBytes (le8 X % Lq) 32)) = _
    rw [HV.out.1]; rfl
  have HF : Hid (decide (le8 X < Lq) = true) := decide_eq_true HV.out.2
  have HI : Hid ((Tryd.prog.info? 24).map (·.size) = some (bvals X).length) := by rw [HL.out]; exact b32_size
  have qx := fun w => (eq32 w X X HXL.out HXL.out).trans (by rw [decide_eq_true rfl])
  have hB5 := Lib.hid (below_row hB4 w3.heap.size (bvals X).toArray hB3.size)
  have HX := Lib.hid (Blk.setRow HB.out (bvals X))
  clear hb1 hb3 hB3 hB4 hcX
  go_wp2_with (refine store_blk HB.out b32_size HL.out (by rfl) (bvals_one _) rfl rfl rfl rfl ?_)
  clear HB
  generalize World.setRow _ _ _ = w4 at *
  generalize w3.heap.size = b at *
  have blk := fun (w' : World) (hw' : Below w4.drew.heap.size w4.drew w') => Blk.below (w := w4.drew) HX.out hw' HX.out.lt
  have ord := fun (w' : World) (hw' : Below w4.drew.heap.size w4.drew w') => ((HO.out.below hB5.out h0).below (Below.refl _ _ : Below w4.heap.size w4 w4) (Nat.lt_of_lt_of_le h0 hB5.out.size)).below (w := w4.drew) hw' (Nat.lt_of_lt_of_le h0 hB5.out.size)
  have h4 : 0 < w4.drew.heap.size := Nat.lt_of_lt_of_le h0 hB5.out.size
  have cvt := fun (w' : World) (hw' : Below w4.drew.heap.size w4.drew w') => conv_blk (P := Tryd.prog) (src := 26) (dst := 9) Tryd.underlying26 Tryd.underlying5 Tryd.underlying9 HXL.out (blk w' hw')
  simp only [Act.put]
  refine region_quiet (C := fun w' => Below w4.drew.heap.size w4.drew w') (by kernel_rfl) (by kernel_rfl) (Below.refl _ _) ?_
  refine wpQuiet_step (fun K hK => ?_)
  refine quiet_plainK (.slice (some ⟨b, 0, none⟩) 32 32) rfl (fun w' hw' => by go_simp) ?_
  go_simp
  refine hK _ ?_
  clear hK K
  refine wpQuiet_step (fun K hK => ?_)
  refine quiet_plainK (.string ⟨X.toArray⟩) rfl (fun w' hw' => by have h := cvt w' hw'; go_simp; try simp [h]) ?_
  go_simp
  refine hK _ ?_
  clear hK K
  refine wpQuiet_step (fun K hK => ?_)
  refine quiet_plainK (.string t) rfl (fun w' hw' => by go_simp) ?_
  go_simp
  refine hK _ ?_
  clear hK K
  refine wpQuiet_step (fun K hK => ?_)
  refine quiet_callK (.string ⟨X.toArray⟩) 10 #[.string t] rfl (fun w' => by go_simp) (fun w' hw' => (refReduce_cut t w').mono (by
    rintro e w'' ⟨rfl, hb⟩
    exact ⟨HX0.out, hw'.trans (hb.mono hw'.size)⟩)) ?_
  go_simp
  refine hK _ ?_
  clear hK K
  refine wpQuiet_step (fun K hK => ?_)
  refine quiet_plainK (.bool true) rfl (fun w' hw' => by go_simp) ?_
  go_simp
  refine hK _ ?_
  clear hK K
  refine wpQuiet_step (fun K hK => ?_)
  refine quiet_plainK (.bool true) rfl (fun w' hw' => by go_simp) ?_
  go_simp
  refine hK _ ?_
  clear hK K
  refine wpQuiet_step (fun K hK => ?_)
  refine quiet_loadG (fun w' hw' => blk w' hw') Tryd.underlying24 HI.out (by first | rfl | simp [Region.wanted, yielded]) rfl (by go_simp) ?_
  go_simp
  refine hK _ ?_
  clear hK K
  refine wpQuiet_step (fun K hK => ?_)
  refine quiet_callG (.bool true) 11 #[.agg (bvals X).toArray] (by first | rfl | simp [Region.wanted, yielded]) (fun w' => by go_simp) (fun w' hw' => (fits_ok X w' HXL.out (ord w' hw') (Nat.lt_of_lt_of_le h4 hw'.size)).mono (by
    rintro e w'' ⟨rfl, hb⟩
    exact ⟨ret_bool HF.out, hw'.trans (hb.mono hw'.size)⟩)) ?_
  go_simp
  refine hK _ ?_
  clear hK K
  refine wpQuiet_step (fun K hK => ?_)
  refine quiet_plainK (.bool true) rfl (fun w' hw' => by go_simp) ?_
  go_simp
  refine hK _ ?_
  clear hK K
  refine wpQuiet_step (fun K hK => ?_)
  refine quiet_plainK (.bool true) rfl (fun w' hw' => by go_simp) ?_
  go_simp
  refine hK _ ?_
  clear hK K
  refine wpQuiet_step (fun K hK => ?_)
  refine quiet_plainG (.slice (some ⟨b, 0, none⟩) 32 32) (by first | rfl | simp [Region.wanted, yielded]) (fun w' hw' => by go_simp) ?_
  go_simp
  refine hK _ ?_
  clear hK K
  refine wpQuiet_step (fun K hK => ?_)
  refine quiet_plainG (.string ⟨X.toArray⟩) (by first | rfl | simp [Region.wanted, yielded]) (fun w' hw' => by have h := cvt w' hw'; go_simp; try simp [h]) ?_
  go_simp
  refine hK _ ?_
  clear hK K
  refine wpQuiet_step (fun K hK => ?_)
  refine quiet_callG (.agg (bvals X).toArray) 9 #[.string ⟨X.toArray⟩] (by first | rfl | simp [Region.wanted, yielded]) (fun w' => by go_simp) (fun w' hw' => (reduce_ok ⟨X.toArray⟩ w' (ord w' hw') (Nat.lt_of_lt_of_le h4 hw'.size)).mono (by
    rintro e w'' ⟨rfl, hb⟩
    exact ⟨HR.out, hw'.trans (hb.mono hw'.size)⟩)) ?_
  go_simp
  refine hK _ ?_
  clear hK K
  refine wpQuiet_step (fun K hK => ?_)
  refine quiet_loadG (fun w' hw' => blk w' hw') Tryd.underlying24 HI.out (by first | rfl | simp [Region.wanted, yielded]) rfl (by go_simp) ?_
  go_simp
  refine hK _ ?_
  clear hK K
  refine wpQuiet_step (fun K hK => ?_)
  refine quiet_plainG (.bool true) (by first | rfl | simp [Region.wanted, yielded]) (fun w' hw' => by have h := qx w'; go_simp; try simp [h]) ?_
  go_simp
  refine hK _ ?_
  clear hK K
  refine wpQuiet_step (fun K hK => ?_)
  refine quiet_plainK (.bool true) rfl (fun w' hw' => by go_simp) ?_
  go_simp
  refine hK _ ?_
  clear hK K
  refine wpQuiet_step (fun K hK => ?_)
  refine quiet_plainK (.bool true) rfl (fun w' hw' => by go_simp) ?_
  go_simp
  refine hK _ ?_
  clear hK K
  refine wpQuiet_nil ?_
  intro w5 hw5
  go_wp2
  go_ret
  exact ⟨rfl, (below_drewN hB5.out 1).trans (Below.mono hw5 hB5.out.size)⟩
end Go.Proofs.YtomdldjamdkhoaaDoor
