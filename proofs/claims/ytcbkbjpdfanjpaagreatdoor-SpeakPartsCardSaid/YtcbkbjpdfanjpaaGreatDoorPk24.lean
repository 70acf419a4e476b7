/-
message: counted.
-/
import Derived.Test.YtcbkbjpdfanjpaaGreatDoorPk23
import Derived.Test.YtcbkbjpdfanjpaaGreatDoorPk05
import Derived.Test.YtcbkbjpdfanjpaaGreatDoorPk09
namespace Go.Proofs.YtcbkbjpdfanjpaaGreatDoor
open Go.RowKit
set_option maxRecDepth 100000
namespace Mg
theorem fits_len : ∀ (ls : S) (u : List Nat) (s : List S) (n : List (List S)) (b : List Bool), Ms.fits ls u s n b →
    u.length = ls.count 117 ∧ s.length = ls.count 115 + ls.count 99 + ls.count 114 ∧ n.length = ls.count 110 ∧ b.length = ls.count 98
  | [], u, s, n, b, h => by
    obtain ⟨rfl, rfl, rfl, rfl⟩ := Ms.fits_nil h
    exact ⟨rfl, rfl, rfl, rfl⟩
  | c :: r, u, s, n, b, h => by
    by_cases e1 : c = 117
    · subst e1
      obtain ⟨x, u', rfl, h, _⟩ := Ms.fits_u h
      have := fits_len r u' s n b h
      simp
      omega
    · by_cases e2 : c = 110
      · subst e2
        obtain ⟨x, n', rfl, _, h, _⟩ := Ms.fits_n h
        have := fits_len r u s n' b h
        simp
        omega
      · by_cases e3 : c = 98
        · subst e3
          obtain ⟨x, b', rfl, h, _⟩ := Ms.fits_b h
          have := fits_len r u s n b' h
          simp
          omega
        · obtain ⟨hc, x, s', rfl, _, h, _⟩ := Ms.fits_s h e1 e2 e3
          have := fits_len r u s' n b h
          rcases hc with rfl | rfl | ⟨rfl, _⟩ <;> simp <;> omega
def sumC (ls cs : S) : Nat := (cs.map fun c => ls.count c).sum
theorem sumC_next (ls cs : S) (i : Nat) (c : UInt8) (h : cs[i]? = some c) : sumC ls (cs.take (i + 1)) = sumC ls (cs.take i) + ls.count c := by
  unfold sumC
  rw [List.take_add_one, h, List.map_append, List.sum_append]
  simp
def onesV (cs : S) : List Value := cs.map fun c => Value.string ⟨#[c]⟩
set_option maxHeartbeats 4000000 in
theorem count1_ok (ls cs : S) (g n lb : Nat) (w : World) (hb : Blk w g 9 (onesV cs)) (hL : Blk w lb 9 [.string (by8 ls)]) (hn : cs.length = n) (hn3 : n ≤ 3) (hl : ls.length ≤ 100) :
    Calls Tryz.prog 94 #[.slice (some ⟨g, 0, none⟩) n n, .pointer (some ⟨lb, 0, none⟩)] w fun e w' => e = .returned (.int .i64 (sumC ls cs : Nat)) ∧ w = w' := by
  have cl := hL.cell 0 _ rfl
  have HB := Lib.hid hb
  have HN := Lib.hid hn
  have HC : Hid (∀ i, i ≤ n → sumC ls (cs.take i) ≤ i * 100) := Lib.hid fun i _ => by
    unfold sumC
    have : ∀ (l : S), ((l.map fun c => ls.count c).sum) ≤ l.length * 100 := by
      intro l
      induction l with
      | nil => simp
      | cons c r ih =>
        have := List.count_le_length (a := c) (l := ls)
        simp only [List.map_cons, List.sum_cons, List.length_cons]
        omega
    have h2 := this (cs.take i)
    rw [List.length_take] at h2
    have : min i cs.length ≤ i := Nat.min_le_left _ _
    exact Nat.le_trans h2 (Nat.mul_le_mul_right _ this)
  clear hb hL hn
  go_enter Tryz.func94, Tryz.ntmps94
  go_upto_region 3 with fail
  go_loop [4, 9] (fun v4 v9 => ∃ i : Nat, v4 = .int .i64 (sumC ls (cs.take i) : Nat) ∧ v9 = .int .i64 i ∧ i ≤ n) (fun _ v => n - (intOf v).toNat)
  case atStart => exact ⟨0, rfl, rfl, Nat.zero_le _⟩
  case round =>
    obtain ⟨i, rfl, rfl, hi⟩ := hrel
    by_cases hgo : i < n
    · obtain ⟨c, hc⟩ : ∃ c, cs[i]? = some c := ⟨_, List.getElem?_eq_getElem (by rw [HN.out]; exact hgo)⟩
      have ci := HB.out.cell i (.string ⟨#[c]⟩) (by unfold onesV; rw [List.getElem?_map, hc]; rfl)
      have hs := Lib.hid (sumC_next ls cs i c hc)
      have h1 := HC.out i hi
      have h2 := HC.out (i + 1) (by omega)
      rw [hs.out] at h2
      have K := Lib.hid (Spl.count1_ok ls c w)
      generalize sumC ls (cs.take i) = x at *
      generalize ls.count c = y at *
      clear hc
      go_wp2_with (go_at_call 95; refine K.out.mono ?_; rintro e w2 ⟨rfl, rfl⟩)
      go_round
      case rel => exact ⟨i + 1, by rw [hs.out]; go_num, by go_num, by omega⟩
      case measure => simp [intOf]; omega
    · obtain rfl : i = n := by omega
      have ht : cs.take i = cs := List.take_of_length_le (by rw [HN.out]; exact Nat.le_refl _)
      rw [ht]
      clear ht
      go_wp2_with fail
      go_ret
      exact ⟨rfl, rfl⟩
set_option maxHeartbeats 8000000 in
theorem counted_ok (k : Int) (au aq an ab : Option Addr) (nu cu ns cs nn cn nb cb : Nat) (ls : S) (w : World) (hl : ls.length ≤ 100) (h1 : nu = sumC ls [117]) (h2 : ns = sumC ls [115, 99, 114]) (h3 : nn = sumC ls [110]) (h4 : nb = sumC ls [98]) :
    Calls Tryz.prog 70 #[.agg #[.int .i64 k, .slice au nu cu, .slice aq ns cs, .slice an nn cn, .slice ab nb cb], .string (by8 ls)] w fun e w' => e = .returned (.bool true) ∧ Below w.heap.size w w' := by
  have CK : Hid (∀ (xs : S) (g n lb x : Nat) (w' : World), Blk w' g 9 (onesV xs) → Blk w' lb 9 [.string (by8 ls)] → xs.length = n → n ≤ 3 → sumC ls xs = x → Calls Tryz.prog 94 #[.slice (some ⟨g, 0, none⟩) n n, .pointer (some ⟨lb, 0, none⟩)] w' fun e w'' => e = .returned (.int .i64 (x : Nat)) ∧ w' = w'') := Lib.hid fun xs g n lb x w' hb hL hn hn3 hx => by
    subst hx
    exact count1_ok ls xs g n lb w' hb hL hn hn3 hl
  have E1 := Lib.hid h1.symm
  have E2 := Lib.hid h2.symm
  have E3 := Lib.hid h3.symm
  have E4 := Lib.hid h4.symm
  clear h1 h2 h3 h4
  go_enter Tryz.func70, Tryz.ntmps70
  go_upto_region 1 with fail
  refine wp_gen (fun wx => Blk wx w.heap.size tM [.int .i64 k, .slice au nu cu, .slice aq ns cs, .slice an nn cn, .slice ab nb cb] ∧ Blk wx (w.heap.size + 1) 9 [.string (by8 ls)] ∧ Below w.heap.size w wx) ⟨(Blk.new w tM [.int .i64 k, .slice au nu cu, .slice aq ns cs, .slice an nn cn, .slice ab nb cb]).alloc _, Blk.new2 _ _ _ [.string (by8 ls)], below2 _ _ _⟩ ?_
  rintro w1 ⟨O1, L1, B1⟩
  go_upto_region 2 with fail
  have BD : Below w.heap.size w w1.drew := below_drewN B1 1
  have OD : Blk w1.drew w.heap.size tM _ := O1
  have LD : Blk w1.drew (w.heap.size + 1) 9 _ := L1
  have OC : Hid (∀ w', Keeps (fun _ => False) w1.drew w' → Blk w' w.heap.size tM [.int .i64 k, .slice au nu cu, .slice aq ns cs, .slice an nn cn, .slice ab nb cb] ∧ Blk w' (w.heap.size + 1) 9 [.string (by8 ls)] ∧ Below w.heap.size w w') := Lib.hid fun w' hw' => ⟨hw'.blk OD (fun e => e), hw'.blk LD (fun e => e), BD.trans (hw'.below BD.size (fun _ _ e => e))⟩
  clear O1 L1 B1 BD OD LD
  have KA : Hid (Keeps (fun _ => False) w1.drew w1.drew) := Lib.hid (Keeps.refl _ _)
  (refine Pl.wp_region_plan (fun _ => False) [(true, 0), (true, 1), (true, 2), (true, 3), (false, 4), (false, 5), (true, 6), (true, 7), (true, 8), (true, 9), (true, 10), (true, 11), (false, 12), (false, 13), (true, 14), (true, 15), (true, 16), (true, 17), (true, 18), (true, 19), (true, 20), (false, 21), (false, 22), (true, 23), (true, 24), (true, 25), (true, 26), (true, 27), (true, 28), (true, 29), (false, 30), (false, 31), (true, 32), (true, 33), (true, 34)] (by kernel_rfl) (by kernel_rfl) ?_)
  ((refine Pl.plan_head (i := 0) rfl (fun K hK => ?_); refine Pl.plan_autoE (by first | rfl | simp [Region.wanted, yielded]) ?_; apply Exists.intro; refine ⟨fun w' hw' => ?_, ?_⟩; (focus (go_simp; (first | done | rfl | ((try go_ints); (try simp only [↓IntWalk.iteOmega, true_and]); (try go_simp); (first | done | rfl))))); go_simp; (with_reducible apply hK); clear hK K))
  (refine Pl.plan_head (i := 1) rfl (fun K hK => ?_); refine Pl.plan_plain (.slice au nu cu) (by first | rfl | simp [Region.wanted, yielded]) (fun w' hw' => by have h := (OC.out w' hw').1.cell 1 _ rfl; go_simp; try simp [h]) ?_; go_simp; (with_reducible apply hK); clear hK K)
  ((refine Pl.plan_head (i := 2) rfl (fun K hK => ?_); refine Pl.plan_autoE (by first | rfl | simp [Region.wanted, yielded]) ?_; apply Exists.intro; refine ⟨fun w' hw' => ?_, ?_⟩; (focus (go_simp; (first | done | rfl | ((try go_ints); (try simp only [↓IntWalk.iteOmega, true_and]); (try go_simp); (first | done | rfl))))); go_simp; (with_reducible apply hK); clear hK K); (refine Pl.plan_head (i := 3) rfl (fun K hK => ?_); refine Pl.plan_autoE (by first | rfl | simp [Region.wanted, yielded]) ?_; apply Exists.intro; refine ⟨fun w' hw' => ?_, ?_⟩; (focus (go_simp; (first | done | rfl | ((try go_ints); (try simp only [↓IntWalk.iteOmega, true_and]); (try go_simp); (first | done | rfl))))); go_simp; (with_reducible apply hK); clear hK K))
  refine Pl.plan_sole (i := 4) rfl (fun w6 h6 Q hQ => ?_)
  have K6 := Lib.hid (KA.out.rw h6)
  have K7 := Lib.hid (K6.out.alloc (.cells #[Value.string ⟨#[117]⟩] 9))
  have N7 : Hid (Blk (w6.alloc (.cells #[Value.string ⟨#[117]⟩] 9)) w6.heap.size 9 (onesV [117])) := Lib.hid (Blk.new w6 _ (onesV [117]))
  clear KA h6
  go_wp2_with fail
  refine hQ _ _ K7.out ?_
  clear hQ Q K6
  generalize hw7 : w6.alloc _ = w7 at *
  clear hw7
  generalize w6.heap.size = g6 at *
  refine Pl.plan_sole (i := 5) rfl (fun w8 h8 Q hQ => ?_)
  have KA := Lib.hid (K7.out.rw h8)
  have N8 := Lib.hid (N7.out.below h8 N7.out.lt)
  clear K7 N7 h8
  go_wp2_with (go_at_call 94; refine (CK.out [117] g6 1 _ nu w8 N8.out (OC.out w8 KA.out).2.1 rfl (by decide) E1.out).mono ?_; rintro e w9 ⟨rfl, rfl⟩)
  refine hQ _ _ KA.out ?_
  clear hQ Q N8
  ((refine Pl.plan_head (i := 6) rfl (fun K hK => ?_); refine Pl.plan_autoE (by first | rfl | simp [Region.wanted, yielded]) ?_; apply Exists.intro; refine ⟨fun w' hw' => ?_, ?_⟩; (focus (go_simp; (first | done | rfl | ((try go_ints); (try simp only [↓IntWalk.iteOmega, true_and]); (try go_simp); (first | done | rfl))))); go_simp; (with_reducible apply hK); clear hK K); (refine Pl.plan_head (i := 7) rfl (fun K hK => ?_); refine Pl.plan_autoE (by first | rfl | simp [Region.wanted, yielded]) ?_; apply Exists.intro; refine ⟨fun w' hw' => ?_, ?_⟩; (focus (go_simp; (first | done | rfl | ((try go_ints); (try simp only [↓IntWalk.iteOmega, true_and]); (try go_simp); (first | done | rfl))))); go_simp; (with_reducible apply hK); clear hK K); (refine Pl.plan_head (i := 8) rfl (fun K hK => ?_); refine Pl.plan_autoE (by first | rfl | simp [Region.wanted, yielded]) ?_; apply Exists.intro; refine ⟨fun w' hw' => ?_, ?_⟩; (focus (go_simp; (first | done | rfl | ((try go_ints); (try simp only [↓IntWalk.iteOmega, true_and]); (try go_simp); (first | done | rfl))))); go_simp; (with_reducible apply hK); clear hK K))
  (refine Pl.plan_head (i := 9) rfl (fun K hK => ?_); refine Pl.plan_plain (.slice aq ns cs) (by first | rfl | simp [Region.wanted, yielded]) (fun w' hw' => by have h := (OC.out w' hw').1.cell 2 _ rfl; go_simp; try simp [h]) ?_; go_simp; (with_reducible apply hK); clear hK K)
  ((refine Pl.plan_head (i := 10) rfl (fun K hK => ?_); refine Pl.plan_autoE (by first | rfl | simp [Region.wanted, yielded]) ?_; apply Exists.intro; refine ⟨fun w' hw' => ?_, ?_⟩; (focus (go_simp; (first | done | rfl | ((try go_ints); (try simp only [↓IntWalk.iteOmega, true_and]); (try go_simp); (first | done | rfl))))); go_simp; (with_reducible apply hK); clear hK K); (refine Pl.plan_head (i := 11) rfl (fun K hK => ?_); refine Pl.plan_autoE (by first | rfl | simp [Region.wanted, yielded]) ?_; apply Exists.intro; refine ⟨fun w' hw' => ?_, ?_⟩; (focus (go_simp; (first | done | rfl | ((try go_ints); (try simp only [↓IntWalk.iteOmega, true_and]); (try go_simp); (first | done | rfl))))); go_simp; (with_reducible apply hK); clear hK K))
  refine Pl.plan_sole (i := 12) rfl (fun w6 h6 Q hQ => ?_)
  have K6 := Lib.hid (KA.out.rw h6)
  have K7 := Lib.hid (K6.out.alloc (.cells #[Value.string ⟨#[115]⟩, Value.string ⟨#[99]⟩, Value.string ⟨#[114]⟩] 9))
  have N7 : Hid (Blk (w6.alloc (.cells #[Value.string ⟨#[115]⟩, Value.string ⟨#[99]⟩, Value.string ⟨#[114]⟩] 9)) w6.heap.size 9 (onesV [115, 99, 114])) := Lib.hid (Blk.new w6 _ (onesV [115, 99, 114]))
  clear KA h6
  go_wp2_with fail
  refine hQ _ _ K7.out ?_
  clear hQ Q K6
  generalize hw7 : w6.alloc _ = w7 at *
  clear hw7
  generalize w6.heap.size = g6 at *
  refine Pl.plan_sole (i := 13) rfl (fun w8 h8 Q hQ => ?_)
  have KA := Lib.hid (K7.out.rw h8)
  have N8 := Lib.hid (N7.out.below h8 N7.out.lt)
  clear K7 N7 h8
  go_wp2_with (go_at_call 94; refine (CK.out [115, 99, 114] g6 3 _ ns w8 N8.out (OC.out w8 KA.out).2.1 rfl (by decide) E2.out).mono ?_; rintro e w9 ⟨rfl, rfl⟩)
  refine hQ _ _ KA.out ?_
  clear hQ Q N8
  ((refine Pl.plan_head (i := 14) rfl (fun K hK => ?_); refine Pl.plan_autoE (by first | rfl | simp [Region.wanted, yielded]) ?_; apply Exists.intro; refine ⟨fun w' hw' => ?_, ?_⟩; (focus (go_simp; (first | done | rfl | ((try go_ints); (try simp only [↓IntWalk.iteOmega, true_and]); (try go_simp); (first | done | rfl))))); go_simp; (with_reducible apply hK); clear hK K); (refine Pl.plan_head (i := 15) rfl (fun K hK => ?_); refine Pl.plan_autoE (by first | rfl | simp [Region.wanted, yielded]) ?_; apply Exists.intro; refine ⟨fun w' hw' => ?_, ?_⟩; (focus (go_simp; (first | done | rfl | ((try go_ints); (try simp only [↓IntWalk.iteOmega, true_and]); (try go_simp); (first | done | rfl))))); go_simp; (with_reducible apply hK); clear hK K); (refine Pl.plan_head (i := 16) rfl (fun K hK => ?_); refine Pl.plan_autoE (by first | rfl | simp [Region.wanted, yielded]) ?_; apply Exists.intro; refine ⟨fun w' hw' => ?_, ?_⟩; (focus (go_simp; (first | done | rfl | ((try go_ints); (try simp only [↓IntWalk.iteOmega, true_and]); (try go_simp); (first | done | rfl))))); go_simp; (with_reducible apply hK); clear hK K); (refine Pl.plan_head (i := 17) rfl (fun K hK => ?_); refine Pl.plan_autoE (by first | rfl | simp [Region.wanted, yielded]) ?_; apply Exists.intro; refine ⟨fun w' hw' => ?_, ?_⟩; (focus (go_simp; (first | done | rfl | ((try go_ints); (try simp only [↓IntWalk.iteOmega, true_and]); (try go_simp); (first | done | rfl))))); go_simp; (with_reducible apply hK); clear hK K))
  (refine Pl.plan_head (i := 18) rfl (fun K hK => ?_); refine Pl.plan_plain (.slice an nn cn) (by first | rfl | simp [Region.wanted, yielded]) (fun w' hw' => by have h := (OC.out w' hw').1.cell 3 _ rfl; go_simp; try simp [h]) ?_; go_simp; (with_reducible apply hK); clear hK K)
  ((refine Pl.plan_head (i := 19) rfl (fun K hK => ?_); refine Pl.plan_autoE (by first | rfl | simp [Region.wanted, yielded]) ?_; apply Exists.intro; refine ⟨fun w' hw' => ?_, ?_⟩; (focus (go_simp; (first | done | rfl | ((try go_ints); (try simp only [↓IntWalk.iteOmega, true_and]); (try go_simp); (first | done | rfl))))); go_simp; (with_reducible apply hK); clear hK K); (refine Pl.plan_head (i := 20) rfl (fun K hK => ?_); refine Pl.plan_autoE (by first | rfl | simp [Region.wanted, yielded]) ?_; apply Exists.intro; refine ⟨fun w' hw' => ?_, ?_⟩; (focus (go_simp; (first | done | rfl | ((try go_ints); (try simp only [↓IntWalk.iteOmega, true_and]); (try go_simp); (first | done | rfl))))); go_simp; (with_reducible apply hK); clear hK K))
  refine Pl.plan_sole (i := 21) rfl (fun w6 h6 Q hQ => ?_)
  have K6 := Lib.hid (KA.out.rw h6)
  have K7 := Lib.hid (K6.out.alloc (.cells #[Value.string ⟨#[110]⟩] 9))
  have N7 : Hid (Blk (w6.alloc (.cells #[Value.string ⟨#[110]⟩] 9)) w6.heap.size 9 (onesV [110])) := Lib.hid (Blk.new w6 _ (onesV [110]))
  clear KA h6
  go_wp2_with fail
  refine hQ _ _ K7.out ?_
  clear hQ Q K6
  generalize hw7 : w6.alloc _ = w7 at *
  clear hw7
  generalize w6.heap.size = g6 at *
  refine Pl.plan_sole (i := 22) rfl (fun w8 h8 Q hQ => ?_)
  have KA := Lib.hid (K7.out.rw h8)
  have N8 := Lib.hid (N7.out.below h8 N7.out.lt)
  clear K7 N7 h8
  go_wp2_with (go_at_call 94; refine (CK.out [110] g6 1 _ nn w8 N8.out (OC.out w8 KA.out).2.1 rfl (by decide) E3.out).mono ?_; rintro e w9 ⟨rfl, rfl⟩)
  refine hQ _ _ KA.out ?_
  clear hQ Q N8
  ((refine Pl.plan_head (i := 23) rfl (fun K hK => ?_); refine Pl.plan_autoE (by first | rfl | simp [Region.wanted, yielded]) ?_; apply Exists.intro; refine ⟨fun w' hw' => ?_, ?_⟩; (focus (go_simp; (first | done | rfl | ((try go_ints); (try simp only [↓IntWalk.iteOmega, true_and]); (try go_simp); (first | done | rfl))))); go_simp; (with_reducible apply hK); clear hK K); (refine Pl.plan_head (i := 24) rfl (fun K hK => ?_); refine Pl.plan_autoE (by first | rfl | simp [Region.wanted, yielded]) ?_; apply Exists.intro; refine ⟨fun w' hw' => ?_, ?_⟩; (focus (go_simp; (first | done | rfl | ((try go_ints); (try simp only [↓IntWalk.iteOmega, true_and]); (try go_simp); (first | done | rfl))))); go_simp; (with_reducible apply hK); clear hK K); (refine Pl.plan_head (i := 25) rfl (fun K hK => ?_); refine Pl.plan_autoE (by first | rfl | simp [Region.wanted, yielded]) ?_; apply Exists.intro; refine ⟨fun w' hw' => ?_, ?_⟩; (focus (go_simp; (first | done | rfl | ((try go_ints); (try simp only [↓IntWalk.iteOmega, true_and]); (try go_simp); (first | done | rfl))))); go_simp; (with_reducible apply hK); clear hK K); (refine Pl.plan_head (i := 26) rfl (fun K hK => ?_); refine Pl.plan_autoE (by first | rfl | simp [Region.wanted, yielded]) ?_; apply Exists.intro; refine ⟨fun w' hw' => ?_, ?_⟩; (focus (go_simp; (first | done | rfl | ((try go_ints); (try simp only [↓IntWalk.iteOmega, true_and]); (try go_simp); (first | done | rfl))))); go_simp; (with_reducible apply hK); clear hK K))
  (refine Pl.plan_head (i := 27) rfl (fun K hK => ?_); refine Pl.plan_plain (.slice ab nb cb) (by first | rfl | simp [Region.wanted, yielded]) (fun w' hw' => by have h := (OC.out w' hw').1.cell 4 _ rfl; go_simp; try simp [h]) ?_; go_simp; (with_reducible apply hK); clear hK K)
  ((refine Pl.plan_head (i := 28) rfl (fun K hK => ?_); refine Pl.plan_autoE (by first | rfl | simp [Region.wanted, yielded]) ?_; apply Exists.intro; refine ⟨fun w' hw' => ?_, ?_⟩; (focus (go_simp; (first | done | rfl | ((try go_ints); (try simp only [↓IntWalk.iteOmega, true_and]); (try go_simp); (first | done | rfl))))); go_simp; (with_reducible apply hK); clear hK K); (refine Pl.plan_head (i := 29) rfl (fun K hK => ?_); refine Pl.plan_autoE (by first | rfl | simp [Region.wanted, yielded]) ?_; apply Exists.intro; refine ⟨fun w' hw' => ?_, ?_⟩; (focus (go_simp; (first | done | rfl | ((try go_ints); (try simp only [↓IntWalk.iteOmega, true_and]); (try go_simp); (first | done | rfl))))); go_simp; (with_reducible apply hK); clear hK K))
  refine Pl.plan_sole (i := 30) rfl (fun w6 h6 Q hQ => ?_)
  have K6 := Lib.hid (KA.out.rw h6)
  have K7 := Lib.hid (K6.out.alloc (.cells #[Value.string ⟨#[98]⟩] 9))
  have N7 : Hid (Blk (w6.alloc (.cells #[Value.string ⟨#[98]⟩] 9)) w6.heap.size 9 (onesV [98])) := Lib.hid (Blk.new w6 _ (onesV [98]))
  clear KA h6
  go_wp2_with fail
  refine hQ _ _ K7.out ?_
  clear hQ Q K6
  generalize hw7 : w6.alloc _ = w7 at *
  clear hw7
  generalize w6.heap.size = g6 at *
  refine Pl.plan_sole (i := 31) rfl (fun w8 h8 Q hQ => ?_)
  have KA := Lib.hid (K7.out.rw h8)
  have N8 := Lib.hid (N7.out.below h8 N7.out.lt)
  clear K7 N7 h8
  go_wp2_with (go_at_call 94; refine (CK.out [98] g6 1 _ nb w8 N8.out (OC.out w8 KA.out).2.1 rfl (by decide) E4.out).mono ?_; rintro e w9 ⟨rfl, rfl⟩)
  refine hQ _ _ KA.out ?_
  clear hQ Q N8
  ((refine Pl.plan_head (i := 32) rfl (fun K hK => ?_); refine Pl.plan_autoE (by first | rfl | simp [Region.wanted, yielded]) ?_; apply Exists.intro; refine ⟨fun w' hw' => ?_, ?_⟩; (focus (go_simp; (first | done | rfl | ((try go_ints); (try simp only [↓IntWalk.iteOmega, true_and]); (try go_simp); (first | done | rfl))))); go_simp; (with_reducible apply hK); clear hK K); (refine Pl.plan_head (i := 33) rfl (fun K hK => ?_); refine Pl.plan_autoE (by first | rfl | simp [Region.wanted, yielded]) ?_; apply Exists.intro; refine ⟨fun w' hw' => ?_, ?_⟩; (focus (go_simp; (first | done | rfl | ((try go_ints); (try simp only [↓IntWalk.iteOmega, true_and]); (try go_simp); (first | done | rfl))))); go_simp; (with_reducible apply hK); clear hK K); (refine Pl.plan_head (i := 34) rfl (fun K hK => ?_); refine Pl.plan_autoE (by first | rfl | simp [Region.wanted, yielded]) ?_; apply Exists.intro; refine ⟨fun w' hw' => ?_, ?_⟩; (focus (go_simp; (first | done | rfl | ((try go_ints); (try simp only [↓IntWalk.iteOmega, true_and]); (try go_simp); (first | done | rfl))))); go_simp; (with_reducible apply hK); clear hK K))
  refine Pl.plan_nil (fun wz hz => ?_)
  have BZ := (OC.out wz (KA.out.rw hz)).2.2
  clear hz KA OC
  go_simp
  go_wp2_with fail
  go_ret
  exact ⟨rfl, BZ⟩
end Mg
end Go.Proofs.YtcbkbjpdfanjpaaGreatDoor
