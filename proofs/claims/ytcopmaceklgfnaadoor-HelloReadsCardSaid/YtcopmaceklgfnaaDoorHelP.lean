/-
The plain law of hello: what comes of bytes.
-/
namespace Go.Proofs.YtcopmaceklgfnaaDoor.HelP
/-- one byte of a word of software -/
def okC (c : UInt8) : Bool := decide (33 ≤ c.toNat) && decide (c.toNat ≤ 126) && decide (c.toNat ≠ 45)
def wordL (l : List UInt8) : Bool := l.all okC && decide (1 ≤ l.length) && decide (l.length ≤ 64)
/-- without its return -/
def trimR (l : List UInt8) : List UInt8 := if List.isSuffixOf [13] l then l.take (l.length - 1) else l
def ssh : List UInt8 := [83, 83, 72, 45]
def now : List UInt8 := [83, 83, 72, 45, 50, 46, 48, 45]
def old : List UInt8 := [83, 83, 72, 45, 49, 46, 57, 57, 45]
def upTo (c : UInt8) (l : List UInt8) : List UInt8 := l.takeWhile (fun x => decide (x ≠ c))
def verOk (l : List UInt8) : Bool :=
  if now.isPrefixOf l then wordL (upTo 32 (l.drop 8)) else if old.isPrefixOf l then wordL (upTo 32 (l.drop 9)) else false
inductive St where
  | wait (part : List UInt8) (more : Nat)
  | done (peer : List UInt8)
  | err (code : Nat)
  /-- a whole line -/
def lineSt (l : List UInt8) (more : Nat) : St :=
  if 0 ∈ l then .err 3 else if ssh.isPrefixOf l then (if verOk l then .done l else .err 12) else if more = 0 then .err 12 else .wait [] (more - 1)
def run : List UInt8 → St → St × List UInt8
  | [], s => (s, [])
  | c :: cs, .wait p m => if c = 10 then run cs (lineSt (trimR p) m) else if 254 < p.length + 1 then run cs (.err 4) else run cs (.wait (p ++ [c]) m)
  | c :: cs, .done q => (.done q, c :: cs)
  | _ :: cs, .err e => run cs (.err e)
theorem run_done (q : List UInt8) : ∀ l, run l (.done q) = (.done q, l)
  | [] => rfl
  | _ :: _ => rfl
theorem run_err (e : Nat) : ∀ l, run l (.err e) = (.err e, [])
  | [] => rfl
  | _ :: cs => by show run cs (.err e) = _; exact run_err e cs
/-- a piece of a line -/
theorem run_part (m : Nat) (r : List UInt8) : ∀ (l p : List UInt8), 10 ∉ l → p.length ≤ 254 → run (l ++ r) (.wait p m) = if 254 < (p ++ l).length then (.err 4, []) else run r (.wait (p ++ l) m)
  | [], p, _, hp => by
    rw [if_neg (by simp; omega)]
    simp
  | c :: cs, p, hn, hp => by
    have hc : c ≠ 10 := fun h => hn (by simp [h])
    have hcs : 10 ∉ cs := fun h => hn (by simp [h])
    show (if c = 10 then run (cs ++ r) (lineSt (trimR p) m) else if 254 < p.length + 1 then run (cs ++ r) (.err 4) else run (cs ++ r) (.wait (p ++ [c]) m)) = _
    rw [if_neg hc]
    by_cases h : 254 < p.length + 1
    · rw [if_pos h, run_err, if_pos (by simp; omega)]
    · rw [if_neg h, run_part m r cs (p ++ [c]) hcs (by simp; omega)]
      simp
/-- a whole line -/
theorem run_line (m : Nat) (r l p : List UInt8) (hn : 10 ∉ l) (hp : p.length ≤ 254) (hl : (p ++ l).length ≤ 254) : run (l ++ 10 :: r) (.wait p m) = run r (lineSt (trimR (p ++ l)) m) := by
  rw [run_part m (10 :: r) l p hn hp, if_neg (by omega)]
  rfl
/-- what follows -/
def cont (b : List UInt8) : St × List UInt8 → St × List UInt8
  | (.done q, rest) => (.done q, rest ++ b)
  | (.wait p m, _) => run b (.wait p m)
  | (.err e, _) => run b (.err e)
theorem run_app : ∀ (a b : List UInt8) (s : St), run (a ++ b) s = cont b (run a s)
  | [], b, .wait p m => rfl
  | [], b, .done q => run_done q b
  | [], b, .err e => rfl
  | c :: cs, b, .wait p m => by
    show (if c = 10 then run (cs ++ b) (lineSt (trimR p) m) else if 254 < p.length + 1 then run (cs ++ b) (.err 4) else run (cs ++ b) (.wait (p ++ [c]) m)) = cont b (if c = 10 then run cs (lineSt (trimR p) m) else if 254 < p.length + 1 then run cs (.err 4) else run cs (.wait (p ++ [c]) m))
    by_cases hc : c = 10
    · rw [if_pos hc, if_pos hc]; exact run_app cs b _
    · rw [if_neg hc, if_neg hc]
      by_cases h : 254 < p.length + 1
      · rw [if_pos h, if_pos h]; exact run_app cs b _
      · rw [if_neg h, if_neg h]; exact run_app cs b _
  | c :: cs, b, .done q => rfl
  | c :: cs, b, .err e => run_app cs b (.err e)
/-- a line waited for is short -/
def fit : St → Prop
  | .wait p _ => p.length ≤ 254
  | .done q => q ≠ []
  | .err e => e = 3 ∨ e = 4 ∨ e = 12
theorem fit_line (l : List UInt8) (m : Nat) : fit (lineSt l m) := by
  unfold lineSt
  split
  · exact .inl rfl
  · split
    · rename_i h
      split
      · show l ≠ []
        intro e
        rw [e] at h
        exact absurd h (by decide)
      · exact .inr (.inr rfl)
    · split
      · exact .inr (.inr rfl)
      · show (0 : Nat) ≤ 254; omega
theorem fit_run : ∀ (l : List UInt8) (s : St), fit s → fit (run l s).1
  | [], _, h => h
  | c :: cs, .wait p m, h => by
    show fit (if c = 10 then run cs (lineSt (trimR p) m) else if 254 < p.length + 1 then run cs (.err 4) else run cs (.wait (p ++ [c]) m)).1
    by_cases hc : c = 10
    · rw [if_pos hc]; exact fit_run cs _ (fit_line _ _)
    · rw [if_neg hc]
      by_cases h2 : 254 < p.length + 1
      · rw [if_pos h2]; exact fit_run cs _ (.inr (.inl rfl))
      · rw [if_neg h2]; exact fit_run cs _ (by show (p ++ [c]).length ≤ 254; simp; omega)
  | c :: cs, .done q, h => h
  | c :: cs, .err e, h => fit_run cs _ h
theorem upTo_mem {c : UInt8} : ∀ {l : List UInt8}, c ∈ l → l = upTo c l ++ c :: l.drop ((upTo c l).length + 1)
  | [], h => by cases h
  | x :: l, h => by
    by_cases hx : x = c
    · subst hx
      simp [upTo]
    · have hm : c ∈ l := by
        rcases List.mem_cons.1 h with e | e
        · exact absurd e.symm hx
        · exact e
      have e : upTo c (x :: l) = x :: upTo c l := by simp [upTo, hx]
      rw [e]
      show x :: l = x :: (upTo c l ++ c :: l.drop ((upTo c l).length + 1))
      rw [← upTo_mem hm]
theorem upTo_not {c : UInt8} : ∀ {l : List UInt8}, c ∉ l → upTo c l = l
  | [], _ => rfl
  | x :: l, h => by
    have hx : x ≠ c := fun e => h (by simp [e])
    have hl : c ∉ l := fun e => h (by simp [e])
    have e : upTo c (x :: l) = x :: upTo c l := by simp [upTo, hx]
    rw [e, upTo_not hl]
theorem upTo_free (c : UInt8) : ∀ l : List UInt8, c ∉ upTo c l
  | [] => by simp [upTo]
  | x :: l => by
    by_cases hx : x = c
    · simp [upTo, hx]
    · have e : upTo c (x :: l) = x :: upTo c l := by simp [upTo, hx]
      rw [e]
      intro h
      rcases List.mem_cons.1 h with e | e
      · exact hx e.symm
      · exact upTo_free c l e
theorem upTo_take (c : UInt8) : ∀ l : List UInt8, l.take (upTo c l).length = upTo c l
  | [] => rfl
  | x :: l => by
    by_cases hx : x = c
    · simp [upTo, hx]
    · have e : upTo c (x :: l) = x :: upTo c l := by simp [upTo, hx]
      rw [e]
      show x :: l.take (upTo c l).length = _
      rw [upTo_take c l]
/-- what is read out of a chunk: a whole line, or a part of one -/
theorem run_cut (m : Nat) (l p : List UInt8) (hp : p.length ≤ 254) : run l (.wait p m) =
    if 254 < (p ++ upTo 10 l).length then (.err 4, []) else if 10 ∈ l then run (l.drop ((upTo 10 l).length + 1)) (lineSt (trimR (p ++ upTo 10 l)) m) else (.wait (p ++ l) m, []) := by
  by_cases h : (10 : UInt8) ∈ l
  · have e := upTo_mem h
    by_cases h2 : 254 < (p ++ upTo 10 l).length
    · rw [if_pos h2]
      conv => lhs; rw [e]
      rw [run_part m _ _ p (upTo_free 10 l) hp, if_pos h2]
    · rw [if_neg h2, if_pos h]
      conv => lhs; rw [e]
      exact run_line m _ _ p (upTo_free 10 l) hp (by omega)
  · rw [upTo_not h]
    have e := run_part m [] l p h hp
    rw [List.append_nil] at e
    rw [e]
    by_cases h2 : 254 < (p ++ l).length
    · rw [if_pos h2, if_pos h2]
    · rw [if_neg h2, if_neg h2, if_neg h]; rfl
end Go.Proofs.YtcopmaceklgfnaaDoor.HelP
