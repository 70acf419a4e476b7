/-
packet: a line's key, how far it counts ahead, what a reader holds.
Contracts of the library's functions, off the shelf's templates.
-/
import Derived.Deep.MidRow
import Derived.Test.YtcbkbjpdfanjpaaGreatDoorRows
import Derived.Lib.Bytealg
import Derived.Lib.Slices
import Derived.Lib.Strings
import Derived.Lib.Walk
import Derived.Test.YtcbkbjpdfanjpaaGreatDoorPk16
import Derived.Test.YtcbkbjpdfanjpaaGreatDoorPk06
import Derived.Test.YtcbkbjpdfanjpaaGreatDoorPk18
import Derived.Test.YtcbkbjpdfanjpaaGreatDoorPk20
import Derived.Test.YtcbkbjpdfanjpaaGreatDoorPk01
namespace Go.Proofs.YtcbkbjpdfanjpaaGreatDoor
open Go.RowKit
set_option maxRecDepth 100000
namespace Pt
abbrev S := List UInt8
abbrev tL : TypeId := 35
abbrev tWr : TypeId := 37
abbrev tRd : TypeId := 39
def setMany : List Value → Nat → List Value → List Value
  | cs, _, [] => cs
  | cs, o, v :: r => setMany (cs.set o v) (o + 1) r
theorem setMany_mid (pre post : List Value) : ∀ (old new : List Value), old.length = new.length → setMany (pre ++ old ++ post) pre.length new = pre ++ new ++ post := by
  intro old new
  induction new generalizing pre old with
  | nil =>
    intro h
    obtain rfl := List.eq_nil_of_length_eq_zero h
    rfl
  | cons v r ih =>
    intro h
    cases old with
    | nil => cases h
    | cons x q =>
      show setMany ((pre ++ (x :: q) ++ post).set pre.length v) (pre.length + 1) r = _
      have e : (pre ++ (x :: q) ++ post).set pre.length v = (pre ++ [v]) ++ q ++ post := by
        rw [List.append_assoc, List.set_append_right _ _ (Nat.le_refl _), Nat.sub_self]
        simp
      rw [e]
      have := ih (pre ++ [v]) q (by simpa using h)
      rw [List.length_append] at this
      rw [show pre.length + 1 = pre.length + [v].length from rfl, this]
      simp
theorem Blk.many {b : Nat} {t : TypeId} : ∀ (vs : List Value) {cs : List Value} (o : Nat) {w : World}, Blk w b t cs → Blk (w.setCells b o vs) b t (setMany cs o vs)
  | [], _, _, _, h => h
  | v :: r, _cs, o, _w, h => Blk.many r (o + 1) (h.set o v)
theorem blk_mid {w : World} {b : Nat} {t : TypeId} {pre mid post : List Value} (h : Blk w b t (pre ++ mid ++ post)) : w.rangeAt b pre.length mid := fun j v hj => h.cell _ v (by
  have hl := (List.getElem?_eq_some_iff.1 hj).1
  rw [List.append_assoc, List.getElem?_append_right (by omega), show pre.length + j - pre.length = j by omega, List.getElem?_append_left hl]
  exact hj)
/-- a line's cells: how many, sealed?, the key -/
def lnC (c : Nat) (sl : Bool) (key : S) (tail : List Value) : List Value := [.int .u64 (c : Nat), .bool sl] ++ byv key ++ tail
theorem ln_there {w : World} {b c : Nat} {t : TypeId} {sl : Bool} {key : S} {tail : List Value} (h : Blk w b t (lnC c sl key tail)) (hk : key.length = 32) : w.there b 2 32 := fun j hj => by
  have := blk_mid (pre := [.int .u64 (c : Nat), .bool sl]) (mid := byv key) (post := tail) h
  have hx := byv_get key j (by omega)
  have := this j _ hx
  have h2 : w.cell? ⟨b, 2 + j, none⟩ = _ := this
  exact ⟨by rw [h2]; rfl, h.free _⟩
theorem ln_key {w : World} {b c : Nat} {t : TypeId} {sl : Bool} {key key' : S} {tail : List Value} (h1 : Blk w b t ((lnC c sl key tail).set 1 (.bool true))) (hk : key.length = 32) (hk' : key'.length = 32) : Blk (w.setCells b 2 (byv key')) b t (lnC c true key' tail) := by
  have h2 := Blk.many (byv key') 2 h1
  have e := setMany_mid [.int .u64 (c : Nat), .bool true] tail (byv key) (byv key') (by rw [byv_len, byv_len, hk, hk'])
  have e2 : (lnC c sl key tail).set 1 (.bool true) = [.int .u64 (c : Nat), .bool true] ++ byv key ++ tail := rfl
  rw [e2] at h2
  have e3 : setMany ([.int .u64 (c : Nat), .bool true] ++ byv key ++ tail) 2 (byv key') = [.int .u64 (c : Nat), .bool true] ++ byv key' ++ tail := e
  rw [e3] at h2
  exact h2
theorem arr32_size : (Tryz.prog.info? 23).map (·.size) = some 32 := by kernel_rfl
theorem arr12_size : (Tryz.prog.info? 79).map (·.size) = some 12 := by kernel_rfl
set_option maxHeartbeats 4000000 in
theorem lock_ok (b c : Nat) (t : TypeId) (sl : Bool) (key key' : S) (tail : List Value) (w : World) (h : Blk w b t (lnC c sl key tail)) (hk : key.length = 32) (hk' : key'.length = 32) :
    Calls Tryz.prog 20 #[.pointer (some ⟨b, 0, none⟩), .agg (byv key').toArray] w fun e w' => (∃ u, e = .returned u) ∧ Blk w' b t (lnC c true key' tail) ∧ Keeps (fun q => q = b) w w' := by
  have LK : Hid ((byv key').length = 32) := Lib.hid (by rw [byv_len]; exact hk')
  have HH := Lib.hid (And.intro h (And.intro hk hk'))
  have hbl := h.lt
  clear h hk hk'
  go_enter Tryz.func20, Tryz.ntmps20
  go_upto_region 1 with fail
  refine wp_gen (fun wx => Blk wx w.heap.size 23 (byv key') ∧ Blk wx b t (lnC c sl key tail) ∧ Below w.heap.size w wx) ⟨Blk.new w _ (byv key'), HH.out.1.alloc _, below1 _ _⟩ ?_
  rintro w1 ⟨K1, L1, B1⟩
  have HK := Lib.hid (And.intro (K1.drew 1) (And.intro (L1.drew 1) (below_drewN B1 1)))
  clear K1 L1 B1
  (refine Pq.wp_region_plan (fun q => q = b) 8 [(true, 0), (true, 1), (true, 2), (true, 3), (true, 4), (false, 5), (false, 6), (true, 7), (false, 8)] (by kernel_rfl) (by kernel_rfl) ?_)
  (refine Pq.plan_head (i := 0) rfl (fun K hK => ?_); refine Pq.plan_plain (.pointer (some ⟨b, 0, none⟩)) (by first | rfl | simp [Region.wanted, yielded]) (fun w' hw' => by go_simp) ?_; go_simp; (with_reducible apply hK); clear hK K)
  (refine Pq.plan_head (i := 1) rfl (fun K hK => ?_); refine Pq.plan_plain (.pointer (some ⟨b, 0, none⟩)) (by first | rfl | simp [Region.wanted, yielded]) (fun w' hw' => by go_simp) ?_; go_simp; (with_reducible apply hK); clear hK K)
  (refine Pq.plan_head (i := 2) rfl (fun K hK => ?_); refine Pq.plan_load (fun w' hw' => hw'.blk HK.out.1 (by omega)) Tryz.underlying23 rfl arr32_size LK.out (by first | rfl | simp [Region.wanted, yielded]) rfl (by go_simp) ?_; go_simp; (with_reducible apply hK); clear hK K)
  (refine Pq.plan_head (i := 3) rfl (fun K hK => ?_); refine Pq.plan_plain (.pointer (some ⟨b, 0, none⟩)) (by first | rfl | simp [Region.wanted, yielded]) (fun w' hw' => by go_simp) ?_; go_simp; (with_reducible apply hK); clear hK K)
  (refine Pq.plan_head (i := 4) rfl (fun K hK => ?_); refine Pq.plan_plain (.pointer (some ⟨b, 1, none⟩)) (by first | rfl | simp [Region.wanted, yielded]) (fun w' hw' => by go_simp) ?_; go_simp; (with_reducible apply hK); clear hK K)
  refine Pq.plan_sole (i := 5) rfl (fun w2 h2 Q2 hQ2 => ?_)
  have L2 := HK.out.2.1.below h2 HK.out.2.1.lt
  have c1 := L2.cell 1 _ rfl
  have f1 := L2.free 1
  have H2 := Lib.hid (And.intro L2 (And.intro (((Keeps.refl (fun q => q = b) w1.drew).rw h2).set b 1 (.bool true) (fun _ => rfl)) (HK.out.2.2.trans (Below.mono h2 HK.out.2.2.size))))
  clear L2 h2
  go_wp2_with fail
  refine hQ2 _ _ H2.out.2.1 ?_
  clear hQ2 Q2 c1 f1
  refine Pq.plan_sole (i := 6) rfl (fun w4 h4 Q4 hQ4 => ?_)
  go_wp2_with fail
  refine hQ4 _ _ (H2.out.2.1.rw h4) ?_
  clear hQ4 Q4
  (refine Pq.plan_head (i := 7) rfl (fun K hK => ?_); refine Pq.plan_plain (.pointer (some ⟨b, 2, none⟩)) (by first | rfl | simp [Region.wanted, yielded]) (fun w' hw' => by go_simp) ?_; go_simp; (with_reducible apply hK); clear hK K)
  refine Pq.plan_last rfl (fun w3 h3 Q3 hQ3 => ?_)
  have LZ := (H2.out.1.set 1 (.bool true)).below (Rw.trans h4 h3) (H2.out.1.set 1 (.bool true)).lt
  have KZ := (H2.out.2.1.rw h4).rw h3
  have KW : Keeps (fun q => q = b) w w3 := ((Keeps.of_below (F := fun q => q = b) HK.out.2.2).trans KZ (fun _ _ e => e))
  have TH : w3.there b 2 (byv key').toArray.size := by
    have e : (byv key').toArray.size = 32 := by rw [List.size_toArray]; exact LK.out
    rw [e]
    exact ln_there (c := c) (sl := true) (key := key) (tail := tail) LZ HH.out.2.1
  have HF := Lib.hid (And.intro (ln_key LZ HH.out.2.1 HH.out.2.2) (KW.trans (keeps_setCells b (byv key') 2 w3) (fun _ _ e => e)))
  have ONE := all_oneCell_toArray (byv_one key')
  have SZ : (Tryz.prog.info? 23).map (·.size) = some (byv key').toArray.size := by rw [List.size_toArray, LK.out]; exact arr32_size
  clear LZ KZ KW h4 h3 H2
  refine wpList_store_mid rfl 23 _ _ rfl b 2 (byv key').toArray rfl rfl TH SZ ONE ?_
  go_wp2_with fail
  intro wd hd
  have HD := Lib.hid (And.intro (HF.out.1.below hd HF.out.1.lt) (HF.out.2.rw hd))
  clear HF hd
  go_wp2_with fail
  go_end0
  exact ⟨⟨_, rfl⟩, HD.out.1, HD.out.2⟩
set_option maxHeartbeats 4000000 in
theorem seal_ok (b c : Nat) (t : TypeId) (sl : Bool) (key key' : S) (tail : List Value) (w : World) (h : Blk w b t (lnC c sl key tail)) (hk : key.length = 32) (hk' : key'.length = 32) :
    Calls Tryz.prog 6 #[.pointer (some ⟨b, 0, none⟩), .agg (byv key').toArray] w fun e w' => (∃ u, e = .returned u) ∧ Blk w' b t (lnC c true key' tail) ∧ Keeps (fun q => q = b) w w' := by
  have LK : Hid ((byv key').length = 32) := Lib.hid (by rw [byv_len]; exact hk')
  have HH := Lib.hid (And.intro h (And.intro hk hk'))
  have hbl := h.lt
  clear h hk hk'
  go_enter Tryz.func6, Tryz.ntmps6
  go_upto_region 1 with fail
  refine wp_gen (fun wx => Blk wx w.heap.size 23 (byv key') ∧ Blk wx b t (lnC c sl key tail) ∧ Below w.heap.size w wx) ⟨Blk.new w _ (byv key'), HH.out.1.alloc _, below1 _ _⟩ ?_
  rintro w1 ⟨K1, L1, B1⟩
  have HK := Lib.hid (And.intro (K1.drew 1) (And.intro (L1.drew 1) (below_drewN B1 1)))
  have CL : Hid (∀ w', Below w1.drew.heap.size w1.drew w' → Calls Tryz.prog 20 #[.pointer (some ⟨b, 0, none⟩), .agg (byv key').toArray] w' fun e w'' => (∃ u, e = .returned u) ∧ Blk w'' b t (lnC c true key' tail) ∧ Keeps (fun q => q = b) w' w'') := Lib.hid fun w' hw => lock_ok b c t sl key key' tail w' (HK.out.2.1.below hw HK.out.2.1.lt) HH.out.2.1 HH.out.2.2
  clear K1 L1 B1
  (refine wp_region_quiet_tail (C := fun w' => Below w1.drew.heap.size w1.drew w') 4 (by kernel_rfl) (by kernel_rfl) (Below.refl _ _) ?_; simp only [List.take_succ_cons, List.take_zero, List.drop_succ_cons, List.drop_zero])
  (iterate 3 ((with_reducible refine wpQuiet_step (fun K hK => ?_)); refine quiet_autoE (by first | rfl | simp [Region.wanted, yielded]) ?_; apply Exists.intro; refine ⟨fun w' hw' => ?_, ?_⟩; (focus (go_simp; (first | done | rfl | ((try go_ints); (try simp only [↓IntWalk.iteOmega, true_and]); (try go_simp); (first | done | rfl))))); go_simp; (with_reducible apply hK); clear hK K))
  ((with_reducible refine wpQuiet_step (fun K hK => ?_)); refine quiet_loadB (fun w' hw' => HK.out.1.below hw' HK.out.1.lt) Tryz.underlying23 rfl arr32_size LK.out (by first | rfl | simp [Region.wanted, yielded]) rfl (by go_simp) ?_; go_simp; (with_reducible apply hK); clear hK K)
  refine wpQuiet_nil ?_
  intro w2 B2
  have CC := Lib.hid (CL.out w2 B2)
  go_wp2_with (go_at_call 20; refine CC.out.mono ?_; rintro e w3 ⟨⟨u, rfl⟩, hb3, hk3⟩)
  have HD := Lib.hid (And.intro hb3 (((Keeps.of_below (F := fun q => q = b) HK.out.2.2).trans (Keeps.of_below (F := fun q => q = b) B2) (fun _ _ e => e)).trans hk3 (fun _ _ e => e)))
  clear hb3 hk3 B2 CC CL
  go_wp2_with fail
  go_end0
  exact ⟨⟨_, rfl⟩, HD.out.1, HD.out.2⟩
set_option maxHeartbeats 4000000 in
theorem open_ok (b c : Nat) (t : TypeId) (sl : Bool) (key key' : S) (tail : List Value) (w : World) (h : Blk w b t (lnC c sl key tail)) (hk : key.length = 32) (hk' : key'.length = 32) :
    Calls Tryz.prog 13 #[.pointer (some ⟨b, 0, none⟩), .agg (byv key').toArray] w fun e w' => (∃ u, e = .returned u) ∧ Blk w' b t (lnC c true key' tail) ∧ Keeps (fun q => q = b) w w' := by
  have LK : Hid ((byv key').length = 32) := Lib.hid (by rw [byv_len]; exact hk')
  have HH := Lib.hid (And.intro h (And.intro hk hk'))
  have hbl := h.lt
  clear h hk hk'
  go_enter Tryz.func13, Tryz.ntmps13
  go_upto_region 1 with fail
  refine wp_gen (fun wx => Blk wx w.heap.size 23 (byv key') ∧ Blk wx b t (lnC c sl key tail) ∧ Below w.heap.size w wx) ⟨Blk.new w _ (byv key'), HH.out.1.alloc _, below1 _ _⟩ ?_
  rintro w1 ⟨K1, L1, B1⟩
  have HK := Lib.hid (And.intro (K1.drew 1) (And.intro (L1.drew 1) (below_drewN B1 1)))
  have CL : Hid (∀ w', Below w1.drew.heap.size w1.drew w' → Calls Tryz.prog 20 #[.pointer (some ⟨b, 0, none⟩), .agg (byv key').toArray] w' fun e w'' => (∃ u, e = .returned u) ∧ Blk w'' b t (lnC c true key' tail) ∧ Keeps (fun q => q = b) w' w'') := Lib.hid fun w' hw => lock_ok b c t sl key key' tail w' (HK.out.2.1.below hw HK.out.2.1.lt) HH.out.2.1 HH.out.2.2
  clear K1 L1 B1
  (refine wp_region_quiet_tail (C := fun w' => Below w1.drew.heap.size w1.drew w') 4 (by kernel_rfl) (by kernel_rfl) (Below.refl _ _) ?_; simp only [List.take_succ_cons, List.take_zero, List.drop_succ_cons, List.drop_zero])
  (iterate 3 ((with_reducible refine wpQuiet_step (fun K hK => ?_)); refine quiet_autoE (by first | rfl | simp [Region.wanted, yielded]) ?_; apply Exists.intro; refine ⟨fun w' hw' => ?_, ?_⟩; (focus (go_simp; (first | done | rfl | ((try go_ints); (try simp only [↓IntWalk.iteOmega, true_and]); (try go_simp); (first | done | rfl))))); go_simp; (with_reducible apply hK); clear hK K))
  ((with_reducible refine wpQuiet_step (fun K hK => ?_)); refine quiet_loadB (fun w' hw' => HK.out.1.below hw' HK.out.1.lt) Tryz.underlying23 rfl arr32_size LK.out (by first | rfl | simp [Region.wanted, yielded]) rfl (by go_simp) ?_; go_simp; (with_reducible apply hK); clear hK K)
  refine wpQuiet_nil ?_
  intro w2 B2
  have CC := Lib.hid (CL.out w2 B2)
  go_wp2_with (go_at_call 20; refine CC.out.mono ?_; rintro e w3 ⟨⟨u, rfl⟩, hb3, hk3⟩)
  have HD := Lib.hid (And.intro hb3 (((Keeps.of_below (F := fun q => q = b) HK.out.2.2).trans (Keeps.of_below (F := fun q => q = b) B2) (fun _ _ e => e)).trans hk3 (fun _ _ e => e)))
  clear hb3 hk3 B2 CC CL
  go_wp2_with fail
  go_end0
  exact ⟨⟨_, rfl⟩, HD.out.1, HD.out.2⟩
def ahN (sl : Bool) : Nat := if sl then 0 else 4
set_option maxHeartbeats 1000000 in
theorem ahead_ok (b c : Nat) (t : TypeId) (sl : Bool) (key : S) (tail : List Value) (w : World) (h : Blk w b t (lnC c sl key tail)) :
    Calls Tryz.prog 25 #[.pointer (some ⟨b, 0, none⟩)] w fun e w' => e = .returned (.int .i64 (ahN sl : Nat)) ∧ w = w' := by
  have c1 := h.cell 1 _ rfl
  clear h
  cases sl
  · go_enter Tryz.func25, Tryz.ntmps25
    go_wp2_with fail
    go_ret
    exact ⟨rfl, rfl⟩
  · go_enter Tryz.func25, Tryz.ntmps25
    go_wp2_with fail
    go_ret
    exact ⟨rfl, rfl⟩
/-- what a reader holds -/
abbrev rdC (c : Nat) (sl : Bool) (key s : S) : List Value := lnC c sl key [.string (by8 s), .nilIface]
theorem rd_cells {w : World} {b c : Nat} {sl : Bool} {key s : S} (h : Blk w b tRd (rdC c sl key s)) (hk : key.length = 32) : w.cell? ⟨b, 34, none⟩ = some (.string (by8 s)) ∧ w.cell? ⟨b, 35, none⟩ = some .nilIface := by
  have e : ∀ i v, [Value.string (by8 s), .nilIface][i]? = some v → (rdC c sl key s)[34 + i]? = some v := fun i v hv => by
    unfold rdC lnC
    rw [List.getElem?_append_right (by rw [List.length_append, byv_len, hk]; show 34 ≤ _; omega), List.length_append, byv_len, hk]
    rw [show 34 + i - ([Value.int .u64 (c : Nat), .bool sl].length + 32) = i by show 34 + i - 34 = i; omega]
    exact hv
  exact ⟨h.cell 34 _ (e 0 _ rfl), h.cell 35 _ (e 1 _ rfl)⟩
theorem rd_set {w : World} {b c : Nat} {sl : Bool} {key s s' : S} (h : Blk w b tRd (rdC c sl key s)) (hk : key.length = 32) : Blk (w.setCell ⟨b, 34, none⟩ (.string (by8 s'))) b tRd (rdC c sl key s') := by
  have e : (rdC c sl key s).set 34 (.string (by8 s')) = rdC c sl key s' := by
    unfold rdC lnC
    rw [List.set_append_right _ _ (by rw [List.length_append, byv_len, hk]; show 34 ≤ 34; omega), List.length_append, byv_len, hk]
    rfl
  rw [← e]
  exact h.set 34 _
set_option maxHeartbeats 1000000 in
theorem waits_ok (b c : Nat) (sl : Bool) (key s : S) (w : World) (h : Blk w b tRd (rdC c sl key s)) (hk : key.length = 32) :
    Calls Tryz.prog 18 #[.pointer (some ⟨b, 0, none⟩)] w fun e w' => e = .returned (.int .i64 (s.length : Nat)) ∧ w = w' := by
  have c1 := (rd_cells h hk).1
  have hsz := by8_size s
  clear h
  go_enter Tryz.func18, Tryz.ntmps18
  go_wp2_with fail
  go_ret
  exact ⟨rfl, rfl⟩
set_option maxHeartbeats 1000000 in
theorem feed_ok (b c : Nat) (sl : Bool) (key s x : S) (w : World) (h : Blk w b tRd (rdC c sl key s)) (hk : key.length = 32) (hl : s.length + x.length ≤ 1000000) :
    Calls Tryz.prog 12 #[.pointer (some ⟨b, 0, none⟩), .string (by8 x)] w fun e w' => (∃ u, e = .returned u) ∧ Blk w' b tRd (rdC c sl key (s ++ x)) ∧ Keeps (fun q => q = b) w w' := by
  obtain ⟨c1, c2⟩ := rd_cells h hk
  have f1 := h.free 34
  have s1 := by8_size s
  have s2 := by8_size x
  have HA : Hid (by8 s ++ by8 x = by8 (s ++ x)) := Lib.hid (by8_app s x)
  have HF : Hid (Blk (w.setCell ⟨b, 34, none⟩ (.string (by8 s ++ by8 x))) b tRd (rdC c sl key (s ++ x)) ∧ Keeps (fun q => q = b) w (w.setCell ⟨b, 34, none⟩ (.string (by8 s ++ by8 x)))) := Lib.hid (by
    rw [HA.out]
    exact ⟨rd_set h hk, (Keeps.refl _ w).set b 34 _ (fun _ => rfl)⟩)
  clear h
  go_enter Tryz.func12, Tryz.ntmps12
  go_wp2_with fail
  go_end0
  exact ⟨⟨_, rfl⟩, HF.out.1, HF.out.2⟩
end Pt
end Go.Proofs.YtcbkbjpdfanjpaaGreatDoor

namespace Go.Proofs.YtcbkbjpdfanjpaaGreatDoor
open Go.RowKit

set_option maxHeartbeats 1000000 in
set_option maxRecDepth 100000 in
theorem Sh.stringslite_IndexByte (s : ByteArray) (c : Int) (w : World) :
    Calls Tryz.prog 112 #[.string s, .int .u8 c] w fun e w' => e = .returned (.int .i64 (Lib.indexByte s.data.toList c.toNat.toUInt8)) ∧ w' = w := by
  go_enter Tryz.func112, Tryz.ntmps112
  go_wp2
  rw [run_callFunc_extern Tryz.func123 (by kernel_rfl) (by kernel_rfl) (by kernel_rfl) (e := Extern.BytealgIndexByte.indexByte) (by kernel_rfl), Lib.run_indexByteString]
  simp only [Result.andThen]
  rw [Oper.upon_value]
  go_wp2
  go_ret
  exact ⟨rfl, rfl⟩


set_option maxHeartbeats 2000000 in
set_option maxRecDepth 100000 in
theorem Sh.stringslite_Index_one (s : ByteArray) (c : UInt8) (w : World) :
    Calls Tryz.prog 96 #[.string s, .string ⟨#[c]⟩] w fun e w' => e = .returned (.int .i64 (Lib.indexByte s.data.toList c)) ∧ w' = w := by
  go_enter Tryz.func96, Tryz.ntmps96
  go_wp2_with (go_at_call 112; refine (Sh.stringslite_IndexByte _ _ _).mono ?_; rintro e w' ⟨rfl, rfl⟩)
  · have h : ([c] == s.toList) = true := by assumption
    go_ret
    refine ⟨?_, rfl⟩
    have e : s.data.toList = [c] := by rw [← Lib.toList_data]; exact (beq_iff_eq.1 h).symm
    rw [e]
    simp [Lib.indexByte]
  · go_ret
    exact ⟨rfl, rfl⟩


set_option maxHeartbeats 1000000 in
theorem Sh.strings_Index_one (s : ByteArray) (c : UInt8) (w : World) :
    Calls Tryz.prog 97 #[.string s, .string ⟨#[c]⟩] w fun e w' => e = .returned (.int .i64 (Lib.indexByte s.data.toList c)) ∧ w' = w := by
  go_enter Tryz.func97, Tryz.ntmps97
  go_wp2_with (go_at_call 96; refine (Sh.stringslite_Index_one _ _ _).mono ?_; rintro e w' ⟨rfl, rfl⟩)
  go_ret
  exact ⟨rfl, rfl⟩


set_option maxHeartbeats 1000000 in
theorem Sh.strings_Contains_one (s : ByteArray) (c : UInt8) (w : World) :
    Calls Tryz.prog 75 #[.string s, .string ⟨#[c]⟩] w fun e w' => e = .returned (.bool (decide (0 ≤ Lib.indexByte s.data.toList c))) ∧ w' = w := by
  go_enter Tryz.func75, Tryz.ntmps75
  go_wp2_with (go_at_call 97; refine (Sh.strings_Index_one _ _ _).mono ?_; rintro e w' ⟨rfl, rfl⟩)
  go_ret
  exact ⟨rfl, rfl⟩


set_option maxHeartbeats 1000000 in
theorem Sh.strings_HasPrefix (s p : ByteArray) (w : World) :
    Calls Tryz.prog 63 #[.string s, .string p] w fun e w' => e = .returned (.bool (Lib.hasPrefix s.data.toList p.data.toList)) ∧ w' = w := by
  rw [← Lib.hasPrefix_of_take, ← Lib.size_eq, ← Lib.size_eq]
  go_enter Tryz.func63, Tryz.ntmps63
  go_wp2
  · rename_i h
    go_ret
    refine ⟨?_, rfl⟩
    show Ending.returned (Value.bool ((s.extract 0 p.size).toList == p.toList)) = _
    rw [Lib.extract_toList, Lib.toList_data]
    simp [h]
  · rename_i h
    go_ret
    refine ⟨?_, rfl⟩
    show Ending.returned (Value.bool false) = _
    simp [h]


set_option maxHeartbeats 1000000 in
theorem Sh.strings_CutPrefix (s p : ByteArray) (w : World) :
    Calls Tryz.prog 98 #[.string s, .string p] w fun e w' => e = .returned (.tuple #[.string ⟨(Lib.trimPrefix s.data.toList p.data.toList).toArray⟩, .bool (Lib.hasPrefix s.data.toList p.data.toList)]) ∧ w' = w := by
  go_enter Tryz.func98, Tryz.ntmps98
  go_wp2
  · have h2 : (!((s.extract 0 p.size).toList == p.toList)) = true := by assumption
    have h3 : (decide (p.size ≤ s.size) && ((s.extract 0 p.size).toList == p.toList)) = false := by
      have : ((s.extract 0 p.size).toList == p.toList) = false := by simpa using h2
      rw [this]
      simp
    go_ret2
    refine ⟨?_, rfl⟩
    rw [Lib.trimPrefix_miss s p h3, ← Lib.hasPrefix_raw, h3]
    rfl
  · have h1 : p.size ≤ s.size := by assumption
    have h2 : (!((s.extract 0 p.size).toList == p.toList)) = false := by assumption
    have h2' : ((s.extract 0 p.size).toList == p.toList) = true := by simpa using h2
    go_ret2
    refine ⟨?_, rfl⟩
    rw [Lib.trimPrefix_hit s p h1 h2', ← Lib.hasPrefix_raw, h2', decide_eq_true h1]
    rfl
  · have h1 : ¬ p.size ≤ s.size := by assumption
    have h3 : (decide (p.size ≤ s.size) && ((s.extract 0 p.size).toList == p.toList)) = false := by simp [h1]
    go_ret2
    refine ⟨?_, rfl⟩
    rw [Lib.trimPrefix_miss s p h3, ← Lib.hasPrefix_raw, h3]
    rfl


set_option maxHeartbeats 1000000 in
theorem Sh.strings_TrimSuffix (s p : ByteArray) (w : World) (hs : s.size ≤ 9223372036854775807) :
    Calls Tryz.prog 45 #[.string s, .string p] w fun e w' => e = .returned (.string ⟨(Lib.trimSuffix s.data.toList p.data.toList).toArray⟩) ∧ w' = w := by
  have hlo : p.size ≤ s.size → ((s.size : Int) - (p.size : Int) + 9223372036854775808) % 18446744073709551616 - 9223372036854775808 = ((s.size - p.size : Nat) : Int) := fun _ => by omega
  go_enter Tryz.func45, Tryz.ntmps45
  go_wp2
  · have h1 : p.size ≤ s.size := by assumption
    have h2 : ((s.extract (s.size - p.size) s.size).toList == p.toList) = true := by assumption
    go_ret
    refine ⟨?_, rfl⟩
    rw [Lib.trimSuffix_hit s p h1 h2]
    rfl
  · have h2 : ((s.extract (s.size - p.size) s.size).toList == p.toList) = false := by assumption
    go_ret
    refine ⟨?_, rfl⟩
    rw [Lib.trimSuffix_miss s p (by rw [h2]; simp)]
    rfl
  · have h1 : ¬ p.size ≤ s.size := by assumption
    go_ret
    refine ⟨?_, rfl⟩
    rw [Lib.trimSuffix_miss s p (by simp [h1])]
    rfl


end Go.Proofs.YtcbkbjpdfanjpaaGreatDoor
