/-
hello: the document's answer.
-/
import Derived.Test.YtcopmaceklgfnaaDoorHelF
namespace Go.Proofs.YtcopmaceklgfnaaDoor
open Go.RowKit HelP
set_option maxRecDepth 100000
theorem pre_take (b l : List UInt8) : b.isPrefixOf l = decide (l.take b.length = b) := by
  rw [Bool.eq_iff_iff, List.isPrefixOf_iff_prefix, decide_eq_true_iff]
  exact ⟨fun h => (List.prefix_iff_eq_take.1 h).symm, fun h => List.prefix_iff_eq_take.2 h.symm⟩
theorem after_ok (s b : ByteArray) (hs : s.size ≤ 5000) (hb : b.size ≤ 20) (w : World) : Calls Tryd.prog 20 #[.string s, .string b] w fun e w' =>
    e = .returned (.tuple #[.string (bs (if b.data.toList.isPrefixOf s.data.toList then s.data.toList.drop b.size else [])), .bool (b.data.toList.isPrefixOf s.data.toList)]) ∧ w = w' := by
  have hl1 : s.data.toList.length = s.size := Array.length_toList
  have hl2 : b.data.toList.length = b.size := Array.length_toList
  by_cases h1 : s.size < b.size
  · have hp : b.data.toList.isPrefixOf s.data.toList = false := by
      rw [pre_take, decide_eq_false_iff_not]
      intro h
      have e := congrArg List.length h
      rw [List.length_take, hl2, hl1] at e
      omega
    rw [hp]
    clear hp hl1 hl2
    go_enter Tryd.func20, Tryd.ntmps20
    go_wp2_with fail
    go_ret2
    exact ⟨rfl, rfl⟩
  · have hd : ((s.size : Int) < b.size) = False := eq_false (by omega)
    by_cases h2 : s.data.toList.take b.size = b.data.toList
    · have hp : b.data.toList.isPrefixOf s.data.toList = true := by
        rw [pre_take, decide_eq_true_iff, hl2]; exact h2
      rw [hp]
      have dt : ((s.extract 0 b.size).toList == b.toList) = true := by
        rw [beq_iff_eq, ext_take, h2, bs_of]
      rw [if_pos rfl, ← ext_drop]
      clear hp hl1 hl2 h2
      go_enter Tryd.func20, Tryd.ntmps20
      go_wp2_with fail
      go_ret2
      exact ⟨rfl, rfl⟩
    · have hp : b.data.toList.isPrefixOf s.data.toList = false := by
        rw [pre_take, decide_eq_false_iff_not, hl2]; exact h2
      rw [hp]
      have dt : ((s.extract 0 b.size).toList == b.toList) = false := by
        rw [beq_eq_false_iff_ne, ext_take, ByteArray.toList_eq, ByteArray.toList_eq, bs_l]
        exact h2
      clear hp hl1 hl2 h2
      go_enter Tryd.func20, Tryd.ntmps20
      go_wp2_with fail
      go_ret2
      exact ⟨rfl, rfl⟩
theorem after_ssh (l : List UInt8) (hl : l.length ≤ 5000) (w : World) : Calls Tryd.prog 20 #[.string (bs l), .string { data := #[83, 83, 72, 45] }] w fun e w' =>
    e = .returned (.tuple #[.string (bs (if ssh.isPrefixOf l then l.drop 4 else [])), .bool (ssh.isPrefixOf l)]) ∧ w = w' :=
  (after_ok (bs l) { data := #[83, 83, 72, 45] } (by rw [bs_size]; omega) (by decide) w).mono (by rintro e w' ⟨rfl, rfl⟩; exact ⟨rfl, rfl⟩)
theorem after_now (l : List UInt8) (hl : l.length ≤ 5000) (w : World) : Calls Tryd.prog 20 #[.string (bs l), .string { data := #[83, 83, 72, 45, 50, 46, 48, 45] }] w fun e w' =>
    e = .returned (.tuple #[.string (bs (if now.isPrefixOf l then l.drop 8 else [])), .bool (now.isPrefixOf l)]) ∧ w = w' :=
  (after_ok (bs l) { data := #[83, 83, 72, 45, 50, 46, 48, 45] } (by rw [bs_size]; omega) (by decide) w).mono (by rintro e w' ⟨rfl, rfl⟩; exact ⟨rfl, rfl⟩)
theorem after_old (l : List UInt8) (hl : l.length ≤ 5000) (w : World) : Calls Tryd.prog 20 #[.string (bs l), .string { data := #[83, 83, 72, 45, 49, 46, 57, 57, 45] }] w fun e w' =>
    e = .returned (.tuple #[.string (bs (if old.isPrefixOf l then l.drop 9 else [])), .bool (old.isPrefixOf l)]) ∧ w = w' :=
  (after_ok (bs l) { data := #[83, 83, 72, 45, 49, 46, 57, 57, 45] } (by rw [bs_size]; omega) (by decide) w).mono (by rintro e w' ⟨rfl, rfl⟩; exact ⟨rfl, rfl⟩)
/-- what is behind the first word of a version's line -/
def verT (l : List UInt8) : List UInt8 := if now.isPrefixOf l then l.drop 8 else if old.isPrefixOf l then l.drop 9 else []
def verB (l : List UInt8) : Bool := now.isPrefixOf l || old.isPrefixOf l
theorem ver_tb (l : List UInt8) : verOk l = (verB l && wordL (upTo 32 (verT l))) := by
  unfold verOk verB verT
  by_cases h1 : now.isPrefixOf l = true
  · rw [if_pos h1, if_pos h1, h1]; rfl
  · rw [if_neg h1, if_neg h1, Bool.eq_false_iff.2 h1]
    by_cases h2 : old.isPrefixOf l = true
    · rw [if_pos h2, if_pos h2, h2]; rfl
    · rw [if_neg h2, if_neg h2, Bool.eq_false_iff.2 h2]; rfl
theorem upTo_at {c : UInt8} : ∀ {l : List UInt8} {k : Nat}, (∀ x ∈ l.take k, x ≠ c) → (∀ x, l[k]? = some x → x = c) → upTo c l = l.take k
  | [], k, _, _ => by simp [upTo]
  | x :: l, 0, _, h2 => by
    have := h2 x rfl
    simp [upTo, this]
  | x :: l, k + 1, h1, h2 => by
    have hx : x ≠ c := h1 x (by simp)
    have e : upTo c (x :: l) = x :: upTo c l := by simp [upTo, hx]
    rw [e, List.take_succ_cons, upTo_at (fun y hy => h1 y (by rw [List.take_succ_cons]; exact List.mem_cons_of_mem _ hy)) (fun y hy => h2 y (by simpa using hy))]
/-- what comes of all -/
def ansL : St → List UInt8 → Value
  | .wait _ _, _ => .agg #[.string (bs []), .string (bs []), .int .i64 0]
  | .done q, r => .agg #[.string (bs q), .string (bs r), .int .i64 0]
  | .err c, _ => .agg #[.string (bs []), .string (bs []), .int .i64 (c : Nat)]
theorem ext_one (s : ByteArray) (i : Nat) (h : i < s.size) : s.extract i (i + 1) = bs [s[i]'h] := by
  have hl : i < s.data.toList.length := by rw [Array.length_toList]; exact h
  apply ByteArray.ext
  apply Array.ext'
  simp only [bs, ByteArray.data_extract, Array.toList_extract, List.extract_eq_take_drop]
  rw [show i + 1 - i = 1 by omega, List.drop_eq_getElem_cons hl, List.take_succ_cons, List.take_zero]
  rfl
theorem drop_at (s : ByteArray) (i : Nat) (h : i < s.size) : s.data.toList.drop i = s[i]'h :: s.data.toList.drop (i + 1) := by
  have hl : i < s.data.toList.length := by rw [Array.length_toList]; exact h
  rw [List.drop_eq_getElem_cons hl]
  rfl
theorem suf_at (p : List UInt8) : List.isSuffixOf [13] p = decide (p ≠ [] ∧ p.getD (p.length - 1) 0 = 13) := by
  rw [Bool.eq_iff_iff, List.isSuffixOf_iff_suffix, decide_eq_true_iff]
  constructor
  · rintro ⟨t, rfl⟩
    simp
  · rintro ⟨h1, h2⟩
    refine ⟨p.dropLast, ?_⟩
    conv => rhs; rw [← List.dropLast_concat_getLast h1]
    rw [← h2, List.getD_eq_getElem?_getD, List.getLast_eq_getElem, List.getElem?_eq_getElem]
    rfl
theorem trimR_cut {p : List UInt8} (h : p ≠ [] ∧ p.getD (p.length - 1) 0 = 13) : trimR p = p.take (p.length - 1) := by
  unfold trimR
  rw [suf_at, decide_eq_true h]
  rfl
theorem trimR_not {p : List UInt8} (h : ¬(p ≠ [] ∧ p.getD (p.length - 1) 0 = 13)) : trimR p = p := by
  unfold trimR
  rw [suf_at, decide_eq_false h]
  rfl
theorem ans_size : (Tryd.prog.info? 33).map (·.size) = some 3 := by kernel_rfl
theorem getD_mem {l : List UInt8} {k : Nat} (h : k < l.length) : l.getD k 0 ∈ l := by
  rw [List.getD_eq_getElem?_getD, List.getElem?_eq_getElem h]
  exact List.getElem_mem h
theorem take_one {l : List UInt8} {k : Nat} (h : k < l.length) : l.take (k + 1) = l.take k ++ [l.getD k 0] := by
  rw [List.take_add_one, List.getD_eq_getElem?_getD, List.getElem?_eq_getElem h]
  rfl
theorem verT_le (l : List UInt8) : (verT l).length ≤ l.length := by
  unfold verT
  split
  · rw [List.length_drop]; omega
  · split
    · rw [List.length_drop]; omega
    · exact Nat.zero_le _
set_option maxHeartbeats 4000000 in
theorem all_ok (s : ByteArray) (hs : s.size ≤ 2000) (m0 : Nat) (hm0 : m0 ≤ 1000) (w : World) : Calls Tryd.prog 11 #[.string s, .int .i64 (m0 : Nat)] w fun e w' =>
    e = .returned (ansL (run s.data.toList (.wait [] m0)).1 (run s.data.toList (.wait [] m0)).2) ∧ Below w.heap.size w w' := by
  obtain ⟨R, hR⟩ : ∃ R, R = run s.data.toList (.wait [] m0) := ⟨_, rfl⟩
  have H0 : Hid (run (s.data.toList.drop 0) (.wait [] m0) = R) := Lib.hid (by rw [hR]; rfl)
  rw [← hR]
  clear hR
  have HLN : Hid (s.data.toList.length = s.size) := Lib.hid Array.length_toList
  go_enter Tryd.func11, Tryd.ntmps11
  go_wp2_with fail
  obtain ⟨w1, hw1⟩ : ∃ w1, w1 = w.alloc (Obj.cells #[Value.string { data := #[] }, Value.string { data := #[] }, Value.int IntKind.i64 0] 33) := ⟨_, rfl⟩
  have HW1 := Lib.hid hw1
  rw [← hw1]
  clear hw1
  go_loop [5, 6, 1] (fun vl vi vm => ∃ (p : List UInt8) (i m : Nat), vl = .string (bs p) ∧ vi = .int .i64 (i : Nat) ∧ vm = .int .i64 (m : Nat) ∧ i ≤ s.size ∧ m ≤ 1000 ∧ p.length ≤ 254 ∧ Hid (run (s.data.toList.drop i) (.wait p m) = R)) (fun _ vi _ => 3000 - (intOf vi).toNat)
  case atStart => exact ⟨[], 0, m0, rfl, rfl, rfl, by omega, hm0, Nat.zero_le _, H0⟩
  case round =>
    obtain ⟨p, i, m, rfl, rfl, rfl, hi, hm, hp, hrun⟩ := hrel
    clear H0
    rcases Nat.lt_or_ge i s.size with h | h
    · have hr := hrun.out
      rw [drop_at s i h] at hr
      by_cases hc : s[i]'h = 10
      · have d1 : (((s[i]'h).toNat : Int) == 10) = true := by rw [hc]; rfl
        rw [hc] at hr
        have hr2 : run (s.data.toList.drop (i + 1)) (lineSt (trimR p) m) = R := hr
        have HR := Lib.hid hr2
        clear hr hr2 hc hrun
        go_upto_region 9 with fail
        go_cut [44] (fun v wx => v = .bool (decide (p ≠ [] ∧ p.getD (p.length - 1) 0 = 13)) ∧ w1 = wx)
        case first =>
          rcases Nat.eq_zero_or_pos p.length with h0 | h0
          · have he : (bs p).toList.isEmpty = true := by rw [emp_l, bs_size]; exact decide_eq_true h0
            go_wp2_with fail
            go_meet
            refine ⟨?_, rfl⟩
            rw [decide_eq_false (fun h => h.1 (List.length_eq_zero_iff.1 h0))]
          · have he : (bs p).toList.isEmpty = false := by rw [emp_l, bs_size]; exact decide_eq_false (by omega)
            obtain ⟨n, hn⟩ : ∃ n, p.length = n + 1 := ⟨p.length - 1, by omega⟩
            have hz : (bs p).size = n + 1 := by rw [bs_size, hn]
            go_wp2_with fail
            go_meet
            refine ⟨congrArg Value.bool ?_, rfl⟩
            have hat := at_l (bs p) n (by omega)
            rw [bs_l] at hat
            rw [hat, Bool.eq_iff_iff, beq_iff_eq, decide_eq_true_iff, hn, Nat.add_sub_cancel]
            constructor
            · intro e
              refine ⟨?_, UInt8.toNat_inj.1 (Int.ofNat.inj (show Int.ofNat (p.getD n 0).toNat = Int.ofNat (13 : UInt8).toNat from e))⟩
              intro e0
              rw [e0] at hn
              cases hn
            · intro e
              rw [e.2]; rfl
        case rest =>
        obtain ⟨rfl, rfl⟩ := hcut
        go_upto_if 44 with fail
        go_cut [5] (fun v wx => v = .string (bs (trimR p)) ∧ w1 = wx)
        case first =>
          by_cases ht : p ≠ [] ∧ p.getD (p.length - 1) 0 = 13
          · have hn : 1 ≤ p.length := Nat.pos_of_ne_zero fun e => ht.1 (List.length_eq_zero_iff.1 e)
            rw [decide_eq_true ht]
            have htr := trimR_cut ht
            obtain ⟨n, hn⟩ : ∃ n, p.length = n + 1 := ⟨p.length - 1, by omega⟩
            have hz : (bs p).size = n + 1 := by rw [bs_size, hn]
            have he := ext_take (bs p) n
            rw [bs_l] at he
            rw [hn, Nat.add_sub_cancel] at htr
            have HE := Lib.hid (And.intro htr he)
            clear ht he htr
            go_wp2_with fail
            go_meet
            rw [HE.out.1, HE.out.2]
            exact ⟨rfl, rfl⟩
          · rw [decide_eq_false ht]
            have HE := Lib.hid (trimR_not ht)
            clear ht
            go_wp2_with fail
            go_meet
            rw [HE.out]
            exact ⟨rfl, rfl⟩
        case rest =>
          obtain ⟨rfl, rfl⟩ := hcut
          have hql := trimR_le p
          obtain ⟨q, hq⟩ : ∃ q, q = trimR p := ⟨_, rfl⟩
          rw [← hq] at HR hql ⊢
          have hq2 : q.length ≤ 254 := by omega
          have hzq := bs_size q
          clear hq hql
          go_upto_region 12 with fail
          go_loop [7] (fun v7 => ∃ k : Nat, v7 = .int .i64 (k : Nat) ∧ k ≤ q.length ∧ Hid ((0 : UInt8) ∉ q.take k)) (fun v => 300 - (intOf v).toNat)
          case atStart => exact ⟨0, rfl, Nat.zero_le _, Lib.hid (by simp)⟩
          case round =>
          obtain ⟨k, rfl, hk, hnk⟩ := hrel
          rcases Nat.lt_or_ge k q.length with hlt | hge
          · have hat := at_l (bs q) k (by omega)
            rw [bs_l] at hat
            by_cases hz0 : q.getD k 0 = 0
            · have hmem : (0 : UInt8) ∈ q := by rw [← hz0]; exact getD_mem hlt
              have hr2 := HR.out
              rw [show lineSt q m = .err 3 by unfold lineSt; rw [if_pos hmem], run_err] at hr2
              have d2 : ((((bs q)[k]'(by omega)).toNat : Int) == 0) = true := by rw [hat, hz0]; rfl
              have HRR := Lib.hid hr2
              clear hr2 HR hat hz0 hmem
              rw [HW1.out]
              go_wp2_with fail
              refine ret_blk rfl (Blk.new w _ [.string (bs []), .string (bs []), .int .i64 3]) Tryd.underlying33 rfl ans_size rfl rfl rfl ⟨?_, below1 w _⟩
              rw [← HRR.out]
              rfl
            · have d2 : ((((bs q)[k]'(by omega)).toNat : Int) == 0) = false := by
                rw [hat, beq_eq_false_iff_ne]
                intro e
                exact hz0 (UInt8.toNat_inj.1 (Int.ofNat.inj (show Int.ofNat (q.getD k 0).toNat = Int.ofNat (0 : UInt8).toNat from e)))
              have hnk2 : Hid ((0 : UInt8) ∉ q.take (k + 1)) := Lib.hid (by
                rw [take_one hlt, List.mem_append, not_or]
                exact ⟨hnk.out, by simp only [List.mem_singleton]; exact fun e => hz0 e.symm⟩)
              clear hat hz0
              go_wp2_with fail
              go_round
              case rel => exact ⟨k + 1, by go_num, by omega, hnk2⟩
              case measure => simp [intOf]; omega
          · have hn0 : (0 : UInt8) ∉ q := by
              have e := hnk.out
              rwa [List.take_of_length_le (by omega)] at e
            have has := after_ssh q (by omega) w1
            by_cases hssh : ssh.isPrefixOf q = true
            · have hr2 := HR.out
              rw [show lineSt q m = if verOk q then .done q else .err 12 by unfold lineSt; rw [if_neg hn0, if_pos hssh], ver_tb] at hr2
              rw [hssh] at has
              have HAS := Lib.hid has
              have HR2 := Lib.hid hr2
              clear hr2 HR has hssh hn0 hnk
              have HAN := Lib.hid (after_now q (by omega) w1)
              have HAO := Lib.hid (after_old q (by omega) w1)
              have htb : verT q = (if now.isPrefixOf q then q.drop 8 else if old.isPrefixOf q then q.drop 9 else []) ∧ verB q = (now.isPrefixOf q || old.isPrefixOf q) := ⟨rfl, rfl⟩
              have htl := verT_le q
              generalize verT q = T at *
              generalize verB q = B at *
              generalize now.isPrefixOf q = bn at *
              generalize old.isPrefixOf q = bo at *
              have HTB := Lib.hid htb
              clear htb
              go_upto_if 66 with (go_at_call 20; with_reducible refine HAS.out.mono ?_; rintro e w' ⟨rfl, rfl⟩)
              go_upto_if 73 with (go_at_call 20; with_reducible refine HAN.out.mono ?_; rintro e w' ⟨rfl, rfl⟩)
              go_cut [10, 11] (fun v10 v11 wx => v10 = .string (bs T) ∧ v11 = .bool B ∧ w1 = wx)
              case first =>
                cases bn
                · cases bo
                  all_goals
                    go_wp2_with (go_at_call 20; with_reducible refine HAO.out.mono ?_; rintro e w' ⟨rfl, rfl⟩)
                    go_meet
                    rw [HTB.out.1, HTB.out.2]
                    exact ⟨rfl, rfl, rfl⟩
                · go_wp2_with fail
                  go_meet
                  rw [HTB.out.1, HTB.out.2]
                  exact ⟨rfl, rfl, rfl⟩
              case rest =>
              obtain ⟨rfl, rfl, rfl⟩ := hcut
              clear HTB HAN HAO HAS
              have hT : T.length ≤ 254 := by omega
              have hzT := bs_size T
              clear htl
              go_upto_region 23 with fail
              go_loop [12, 13] (fun v12 v13 => ∃ k : Nat, v12 = .string (bs (T.take k)) ∧ v13 = .int .i64 (k : Nat) ∧ k ≤ T.length ∧ Hid (∀ x ∈ T.take k, x ≠ 32)) (fun _ v => 300 - (intOf v).toNat)
              case atStart => exact ⟨0, rfl, rfl, Nat.zero_le _, Lib.hid (by simp)⟩
              case round =>
              obtain ⟨j, rfl, rfl, hj, hnj⟩ := hrel
              go_upto_region 23 with fail
              go_cut [88] (fun v wx => v = .bool (decide (j < T.length ∧ T.getD j 0 ≠ 32)) ∧ w1 = wx)
              case first =>
                rcases Nat.lt_or_ge j T.length with hlt | hge
                · go_wp2_with fail
                  go_meet
                  have hat := at_l (bs T) j (by omega)
                  rw [bs_l] at hat
                  refine ⟨congrArg Value.bool ?_, rfl⟩
                  rw [hat, Bool.eq_iff_iff, bne_iff_ne, decide_eq_true_iff]
                  constructor
                  · intro e
                    exact ⟨hlt, fun e2 => e (by rw [e2]; rfl)⟩
                  · intro e e2
                    exact e.2 (UInt8.toNat_inj.1 (Int.ofNat.inj (show Int.ofNat (T.getD j 0).toNat = Int.ofNat (32 : UInt8).toNat from e2)))
                · go_wp2_with fail
                  go_meet
                  rw [decide_eq_false (by omega)]
                  exact ⟨rfl, rfl⟩
              case rest =>
              obtain ⟨rfl, rfl⟩ := hcut
              by_cases hg : j < T.length ∧ T.getD j 0 ≠ 32
              · rw [decide_eq_true hg]
                have hlt := hg.1
                have hnj2 : Hid (∀ x ∈ T.take (j + 1), x ≠ 32) := Lib.hid (by
                  intro x hx
                  rw [take_one hlt, List.mem_append, List.mem_singleton] at hx
                  rcases hx with hx | rfl
                  · exact hnj.out x hx
                  · exact hg.2)
                have hex := ext_one (bs T) j (by omega)
                rw [at_l (bs T) j (by omega), bs_l] at hex
                have HEX := Lib.hid hex
                have HTK := Lib.hid (take_one hlt)
                have hx1 : ((bs T).extract j (j + 1)).size = 1 := by rw [hex, bs_size]; rfl
                have hx2 : (bs (T.take j)).size = j := by rw [bs_size, List.length_take]; omega
                clear hg hex
                go_wp2_with fail
                go_round
                case rel => exact ⟨j + 1, by rw [HEX.out, bs_app, HTK.out], by go_num, by omega, hnj2⟩
                case measure => simp [intOf]; omega
              · rw [decide_eq_false hg]
                have hup : upTo 32 T = T.take j := upTo_at hnj.out (by
                  intro x hx
                  have hlt : j < T.length := (List.getElem?_eq_some_iff.1 hx).1
                  refine Decidable.byContradiction fun hne => hg ⟨hlt, ?_⟩
                  rw [List.getD_eq_getElem?_getD, hx]
                  exact hne)
                have hw := rword_ok (bs (T.take j)) (by rw [bs_size, List.length_take]; omega) w1
                rw [bs_l, ← hup] at hw
                have hr3 := HR2.out
                generalize wordL (upTo 32 T) = V at *
                have HWO := Lib.hid hw
                rw [← hup]
                clear HR2 hw hnj hup hg
                cases hbv : (B && V)
                · rw [hbv, if_neg (by simp), run_err] at hr3
                  have HRR := Lib.hid hr3
                  clear hr3
                  rw [HW1.out] at HWO ⊢
                  cases B
                  · go_wp2_with fail
                    refine ret_blk rfl (Blk.new w _ [.string (bs []), .string (bs []), .int .i64 12]) Tryd.underlying33 rfl ans_size rfl rfl rfl ⟨?_, below1 w _⟩
                    rw [← HRR.out]
                    rfl
                  · have hV : V = false := hbv
                    subst hV
                    go_wp2_with (go_at_call 21; refine HWO.out.mono ?_; rintro e w' ⟨rfl, rfl⟩)
                    refine ret_blk rfl (Blk.new w _ [.string (bs []), .string (bs []), .int .i64 12]) Tryd.underlying33 rfl ans_size rfl rfl rfl ⟨?_, below1 w _⟩
                    rw [← HRR.out]
                    rfl
                · rw [hbv, if_pos rfl, run_done] at hr3
                  have HRR := Lib.hid hr3
                  have hB : B = true := by cases B <;> first | rfl | cases hbv
                  have hV : V = true := by rw [hB] at hbv; exact hbv
                  subst hB hV
                  clear hr3 hbv
                  have hed := ext_drop s (i + 1)
                  have HED := Lib.hid hed
                  clear hed
                  rw [HW1.out] at HWO ⊢
                  go_wp2_with (go_at_call 21; refine HWO.out.mono ?_; rintro e w' ⟨rfl, rfl⟩)
                  refine ret_blk rfl (Blk.new w _ [.string (bs q), .string (s.extract (i + 1) s.size), .int .i64 0]) Tryd.underlying33 rfl ans_size rfl rfl rfl ⟨?_, below1 w _⟩
                  rw [← HRR.out, HED.out]
                  rfl
            · have hssh' : ssh.isPrefixOf q = false := Bool.eq_false_iff.2 hssh
              rw [hssh'] at has
              have HAS := Lib.hid has
              have hl : lineSt q m = if m = 0 then .err 12 else .wait [] (m - 1) := by unfold lineSt; rw [if_neg hn0, if_neg hssh]
              have hr2 := HR.out
              rw [hl] at hr2
              clear has HR hssh hssh' hn0 hnk hl
              rcases Nat.eq_zero_or_pos m with hm0 | hm0
              · rw [if_pos hm0, run_err] at hr2
                have HRR := Lib.hid hr2
                have d3 : ((m : Int) == 0) = true := by rw [beq_iff_eq]; omega
                clear hr2 hm0
                rw [HW1.out] at HAS ⊢
                go_wp2_with (go_at_call 20; refine HAS.out.mono ?_; rintro e w' ⟨rfl, rfl⟩)
                refine ret_blk rfl (Blk.new w _ [.string (bs []), .string (bs []), .int .i64 12]) Tryd.underlying33 rfl ans_size rfl rfl rfl ⟨?_, below1 w _⟩
                rw [← HRR.out]
                rfl
              · rw [if_neg (by omega)] at hr2
                have HRR := Lib.hid hr2
                have d3 : ((m : Int) == 0) = false := by rw [beq_eq_false_iff_ne]; omega
                clear hr2
                go_wp2_with (go_at_call 20; refine HAS.out.mono ?_; rintro e w' ⟨rfl, rfl⟩)
                go_round
                case rel => exact ⟨[], i + 1, m - 1, rfl, by go_num, by go_num, by omega, by omega, Nat.zero_le _, HRR⟩
                case measure => simp [intOf]; omega
      · have d1 : (((s[i]'h).toNat : Int) == 10) = false := by
          rw [beq_eq_false_iff_ne]
          intro e
          exact hc (UInt8.toNat_inj.1 (Int.ofNat.inj e))
        have hr2 : (if 254 < p.length + 1 then run (s.data.toList.drop (i + 1)) (.err 4) else run (s.data.toList.drop (i + 1)) (.wait (p ++ [s[i]'h]) m)) = R := by
          rw [← hr]
          exact (if_neg hc).symm
        have HE := Lib.hid (ext_one s i h)
        have HR := Lib.hid hr2
        clear hr hr2 hc hrun
        have hz0 := bs_size p
        have hz1 : (s.extract i (i + 1)).size = 1 := by rw [HE.out, bs_size]; rfl
        have hz2 := bs_size [s[i]'h]
        go_upto_region 7 with fail
        rw [HE.out, bs_app]
        have hz : (bs (p ++ [s[i]'h])).size = p.length + 1 := by rw [bs_size]; simp
        by_cases hb : 254 < p.length + 1
        · have hr2 := HR.out
          rw [if_pos hb, run_err] at hr2
          have HRR := Lib.hid hr2
          clear hr2 HR
          rw [HW1.out]
          go_wp2_with fail
          refine ret_blk rfl (Blk.new w _ [.string (bs []), .string (bs []), .int .i64 4]) Tryd.underlying33 rfl ans_size rfl rfl rfl ⟨?_, below1 w _⟩
          rw [← HRR.out]
          rfl
        · have hr2 := HR.out
          rw [if_neg hb] at hr2
          have HRR := Lib.hid hr2
          clear hr2 HR
          go_wp2_with fail
          go_round
          case rel => exact ⟨p ++ [s[i]'h], i + 1, m, rfl, by go_num, rfl, by omega, hm, by simp; omega, HRR⟩
          case measure => simp [intOf]; omega
    · have hr := hrun.out
      rw [List.drop_of_length_le (by rw [HLN.out]; omega)] at hr
      have hr2 : ((.wait p m, []) : St × List UInt8) = R := hr
      have HR := Lib.hid hr2
      clear hr hr2 hrun
      rw [HW1.out]
      go_wp2_with fail
      refine ret_blk rfl (Blk.new w _ [.string (bs []), .string (bs []), .int .i64 0]) Tryd.underlying33 rfl ans_size rfl rfl rfl ⟨?_, below1 w _⟩
      rw [← HR.out]
      rfl
end Go.Proofs.YtcopmaceklgfnaaDoor
