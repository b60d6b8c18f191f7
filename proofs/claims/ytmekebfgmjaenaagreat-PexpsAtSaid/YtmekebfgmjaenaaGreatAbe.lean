/- Texts of this proof, joined. -/
import Derived.Test.YtmekebfgmjaenaaGreatAbd

/- expressions: what is read (plain) -/
namespace Go.Proofs.YtmekebfgmjaenaaGreat
open Go Go.RowKit Go.V
set_option linter.unusedVariables false
set_option linter.unusedSimpArgs false

def qjd (c : K) : Option N :=
  if (qbc c).kind = 1 then some (qh4 c 21 [])
  else if (qbc c).kind = 2 then some (qh4 c 22 [])
  else if (qbc c).kind = 3 then some (.mk 23 (qbc c).pos (qbc c).num [] [])
  else none
def begE (c : K) : Bool := (qjd c).isSome || isK c [40]
def qbl (rec : K → K × Option N) (c : K) : K × Option N :=
  if (qjd c).isSome = true then (q8 c, qjd c)
  else if isK c [40] = true then
    if (qh c).2 = true then
      if (rec (q8 (qh c).1)).2.isSome = true then
        if (qu (rec (q8 (qh c).1)).1 [41]).2 = true then (qcg (qu (rec (q8 (qh c).1)).1 [41]).1, (rec (q8 (qh c).1)).2)
        else ((qu (rec (q8 (qh c).1)).1 [41]).1, none)
      else ((rec (q8 (qh c).1)).1, none)
    else ((qh c).1, none)
  else (qfc c 5, none)
/-- A tree, and whether it is one. -/
abbrev R3 := K × N × Bool
def ofO (r : K × Option N) : R3 := (r.1, r.2.getD N0, r.2.isSome)
def toO (r : R3) : K × Option N := (r.1, if r.2.2 = true then some r.2.1 else none)
def appN (n k : N) : N := .mk 24 n.pos 0 [] [n, k]
def qfm (rec : K → K × Option N) : Nat → K → N → R3
  | 0, c, n => (c, n, false)
  | f + 1, c, n =>
    if begE c = true then
      if (qbl rec c).2.isSome = true then qfm rec f (qbl rec c).1 (appN n ((qbl rec c).2.getD N0))
      else ((qbl rec c).1, appN n ((qbl rec c).2.getD N0), false)
    else (c, n, true)
def qg2 (rec : K → K × Option N) (c : K) : R3 :=
  if (qbl rec c).2.isSome = true then qfm rec (rest (qbl rec c).1 + 1) (qbl rec c).1 ((qbl rec c).2.getD N0)
  else ((qbl rec c).1, (qbl rec c).2.getD N0, false)
def lamN (t : T) (n : N) : N := .mk 25 t.pos 0 t.text [n]
def qci (rec : K → K × Option N) (x : List UInt8) : Nat → K → R3
  | 0, c => (c, N0, false)
  | f + 1, c =>
    if (qbc c).kind = 1 then ((qci rec x f (q8 c)).1, lamN (qbc c) (qci rec x f (q8 c)).2.1, (qci rec x f (q8 c)).2.2)
    else if (qu c x).2 = true then ofO (rec (qu c x).1)
    else ((qu c x).1, N0, false)
def qro (k : Int) (t : T) (n : N) : N := .mk k t.pos 0 t.text [n]
def qcj (rec : K → K × Option N) (c : K) : K × Option N :=
  if (qbk c 1).2 = true then
    if (qr (qbk c 1).1 [58, 58]).2 = true then
      ((qep (rest (qr (qbk c 1).1 [58, 58]).1 + 2) (qr (qbk c 1).1 [58, 58]).1).1, (qep (rest (qr (qbk c 1).1 [58, 58]).1 + 2) (qr (qbk c 1).1 [58, 58]).1).2.map (qro 32 (qh9 c 1)))
    else ((qci rec [61] (rest (qbk c 1).1 + 1) (qbk c 1).1).1, (toO (qci rec [61] (rest (qbk c 1).1 + 1) (qbk c 1).1)).2.map (qro 31 (qh9 c 1)))
  else ((qbk c 1).1, none)
/-- Things of a kind with ; between, and } behind them. -/
abbrev RL := K × List N × Bool
def qb4 (rd : K → R3) : Nat → K → List N → RL
  | 0, c, _ => (c, [], false)
  | f + 1, c, acc =>
    if (rd c).2.2 = true then
      if ((qr (rd c).1 [59]).2 && !isK (qr (rd c).1 [59]).1 [125]) = true then qb4 rd f (qr (rd c).1 [59]).1 (acc ++ [(rd c).2.1])
      else ((qu (qr (rd c).1 [59]).1 [125]).1, acc ++ [(rd c).2.1], (qu (qr (rd c).1 [59]).1 [125]).2)
    else ((rd c).1, [], false)
def qbn (rd : K → R3) (c : K) : RL :=
  if (qu c [123]).2 = true then qb4 rd (rest (qu c [123]).1 + 1) (qu c [123]).1 [] else ((qu c [123]).1, [], false)
def posN (p : Int) : N := .mk 0 p 0 [] []
def letC (rec : K → K × Option N) (p : Int) (l : List N) (w : K × Bool) : R3 :=
  if w.2 = true then ((rec w.1).1, .mk 26 p 0 [] (l ++ [(rec w.1).2.getD N0]), (rec w.1).2.isSome) else (w.1, posN p, false)
def letB (rec : K → K × Option N) (p : Int) (l : RL) : R3 :=
  if l.2.2 = true then letC rec p l.2.1 (qu l.1 [105, 110]) else (l.1, posN p, false)
def qh2 (rec : K → K × Option N) (p : Int) (c : K) : R3 := letB rec p (qbn (fun c => ofO (qcj rec c)) c)
def altN (p e : N) : N := .mk 15 p.pos 0 [] [p, e]
def altC (rec : K → K × Option N) (p : N) (w : K × Bool) : R3 :=
  if w.2 = true then ((rec w.1).1, altN p ((rec w.1).2.getD N0), (rec w.1).2.isSome) else (w.1, p, false)
def altB (rec : K → K × Option N) (r : K × Option N) : R3 :=
  if r.2.isSome = true then altC rec (r.2.getD N0) (qu r.1 [45, 62]) else (r.1, r.2.getD N0, false)
def qfi (rec : K → K × Option N) (c : K) : R3 := altB rec (qcv (rest c + 2) c)
def qym (p : Int) (x : N) (l : RL) : R3 := (l.1, .mk 27 p 0 [] (x :: l.2.1), l.2.2)
def qyh (rec : K → K × Option N) (p : Int) (x : N) (w : K × Bool) : R3 :=
  if w.2 = true then qym p x (qbn (qfi rec) w.1) else (w.1, posN p, false)
def qf2 (rec : K → K × Option N) (p : Int) (c : K) : R3 :=
  if (rec c).2.isSome = true then qyh rec p ((rec c).2.getD N0) (qu (rec c).1 [111, 102]) else ((rec c).1, posN p, false)
def ifsK (c : K) (w : List UInt8) : K × Bool := if w = [] then (c, true) else qu c w
def qeh (rec : K → K × Option N) (p : Int) : List (List UInt8) → K → List N → R3
  | [], c, acc => (c, .mk 28 p 0 [] acc, true)
  | w :: r, c, acc =>
    if (ifsK c w).2 = true then
      if (rec (ifsK c w).1).2.isSome = true then qeh rec p r (rec (ifsK c w).1).1 (acc ++ [(rec (ifsK c w).1).2.getD N0])
      else ((rec (ifsK c w).1).1, .mk 28 p 0 [] acc, false)
    else ((ifsK c w).1, .mk 28 p 0 [] acc, false)
def ifsW : List (List UInt8) := [[], [116, 104, 101, 110], [101, 108, 115, 101]]
def qej (rec : K → K × Option N) (c : K) : R3 :=
  if (qr c [92]).2 = true then
    if (qbc (qr c [92]).1).kind = 1 then qci rec [45, 62] (rest (qr c [92]).1 + 1) (qr c [92]).1
    else (qfc (qr c [92]).1 5, posN (qbc c).pos, false)
  else if (qr c [108, 101, 116]).2 = true then qh2 rec (qbc c).pos (qr c [108, 101, 116]).1
  else if (qr c [99, 97, 115, 101]).2 = true then qf2 rec (qbc c).pos (qr c [99, 97, 115, 101]).1
  else if (qr c [105, 102]).2 = true then qeh rec (qbc c).pos ifsW (qr c [105, 102]).1 []
  else qg2 rec c
def qfx : Nat → K → K × Option N
  | 0, c => (c, none)
  | f + 1, c =>
    if (qh c).2 = true then (qcg (qej (qfx f) (qh c).1).1, (toO (qej (qfx f) (qh c).1)).2)
    else ((qh c).1, none)

theorem qi4 {c : K} (h : (qjd c).isSome = true) : (qbc c).kind ≠ 0 := by
  unfold qjd at h
  split at h
  · omega
  · split at h
    · omega
    · split at h
      · omega
      · cases h
theorem qs5 {c : K} (h : begE c = true) : (qbc c).kind ≠ 0 := by
  simp only [begE, Bool.or_eq_true] at h
  rcases h with h | h
  · exact qi4 h
  · exact qdn h
theorem qea {c : K} {x : List UInt8} (h : (qr c x).2 = true) : rest (qr c x).1 < rest c := by
  unfold qr at h ⊢
  split at h
  · rename_i h1
    rw [if_pos h1]
    have := qbj (qdn h1)
    simp only; omega
  · cases h
theorem qgk {c : K} {x : List UInt8} (h : (qu c x).2 = true) : rest (qu c x).1 < rest c := by
  unfold qu at h ⊢
  split at h
  · rename_i h1
    rw [if_pos h1]
    have := qbj (qdn h1)
    simp only; omega
  · cases h
theorem qsc {c : K} (h : (qbk c 1).2 = true) : rest (qbk c 1).1 < rest c := by
  obtain ⟨h1, h2⟩ := qp9 h
  rw [(q1r h).1]
  have := qbj (c := c) (by omega)
  simp only; omega
section
variable {rec : K → K × Option N} (hm : ∀ c, Mon c (rec c).1)
include hm
theorem qdi (c : K) : Mon c (qbl rec c).1 := by
  unfold qbl
  split
  · exact qbt c
  · split
    · split
      · have h1 := ((qy c).trans (qbt _)).trans (hm _)
        split
        · split
          · exact (h1.trans (qp _ _)).trans (qbv _)
          · exact h1.trans (qp _ _)
        · exact h1
      · exact qy c
    · exact qfa c 5
theorem qiv {c : K} (h : (qbl rec c).2.isSome = true) : rest (qbl rec c).1 < rest c := by
  unfold qbl at h ⊢
  split at h
  · rename_i hl
    rw [if_pos hl]
    have := qbj (qi4 hl)
    simp only; omega
  · rename_i hl
    rw [if_neg hl]
    split at h
    · rename_i hk
      rw [if_pos hk]
      split at h
      · rename_i he
        rw [if_pos he]
        have hp := qbj (c := (qh c).1) (by rw [qeg he]; exact qdn hk)
        have h0 := (qy c).2.1
        have h1 := (hm (q8 (qh c).1)).2.1
        split at h
        · rename_i hr
          rw [if_pos hr]
          have h2 := (qp (rec (q8 (qh c).1)).1 [41]).2.1
          split at h
          · rename_i hw
            rw [if_pos hw]
            have h3 := (qbv (qu (rec (q8 (qh c).1)).1 [41]).1).2.1
            simp only; omega
          · cases h
        · cases h
      · cases h
    · cases h
theorem qnx : ∀ (f : Nat) (c : K) (n : N), Mon c (qfm rec f c n).1
  | 0, c, n => Mon.refl c
  | f + 1, c, n => by
    rw [qfm]
    split
    · split
      · exact (qdi hm c).trans (qnx f _ _)
      · exact qdi hm c
    · exact Mon.refl c
theorem qwv (c : K) : Mon c (qg2 rec c).1 := by
  unfold qg2
  split
  · exact (qdi hm c).trans (qnx hm _ _ _)
  · exact qdi hm c
theorem qhw (x : List UInt8) : ∀ (f : Nat) (c : K), Mon c (qci rec x f c).1
  | 0, c => Mon.refl c
  | f + 1, c => by
    rw [qci]
    split
    · exact (qbt c).trans (qhw x f _)
    · split
      · exact (qp c x).trans (hm _)
      · exact qp c x
theorem qgm (c : K) : Mon c (qcj rec c).1 := by
  unfold qcj
  split
  · split
    · exact ((qc8 c 1).trans (qbb _ _)).trans (qjm _ _)
    · exact (qc8 c 1).trans (qhw hm _ _ _)
  · exact qc8 c 1
theorem qlf {c : K} (h : (qcj rec c).2.isSome = true) : rest (qcj rec c).1 < rest c := by
  unfold qcj at h ⊢
  split at h
  · rename_i h1
    rw [if_pos h1]
    have h2 := qsc h1
    split
    · have h3 := ((qbb (qbk c 1).1 [58, 58]).trans (qjm (rest (qr (qbk c 1).1 [58, 58]).1 + 2) _)).2.1
      simp only; omega
    · have h3 := (qhw hm [61] (rest (qbk c 1).1 + 1) (qbk c 1).1).2.1
      simp only; omega
  · cases h
omit hm in
theorem qlh {rd : K → R3} (hd : ∀ c, Mon c (rd c).1) : ∀ (f : Nat) (c : K) (acc : List N), Mon c (qb4 rd f c acc).1
  | 0, c, acc => Mon.refl c
  | f + 1, c, acc => by
    rw [qb4]
    split
    · split
      · exact ((hd c).trans (qbb _ _)).trans (qlh hd f _ _)
      · exact ((hd c).trans (qbb _ _)).trans (qp _ _)
    · exact hd c
omit hm in
theorem qgp {rd : K → R3} (hd : ∀ c, Mon c (rd c).1) (c : K) : Mon c (qbn rd c).1 := by
  unfold qbn
  split
  · exact (qp c _).trans (qlh hd _ _ _)
  · exact qp c _
theorem qxa (p : Int) (c : K) : Mon c (qh2 rec p c).1 := by
  unfold qh2 letB letC
  have h := qgp (rd := fun c => ofO (qcj rec c)) (fun c => qgm hm c) c
  split
  · split
    · exact (h.trans (qp _ _)).trans (hm _)
    · exact h.trans (qp _ _)
  · exact h
theorem qkx (c : K) : Mon c (qfi rec c).1 := by
  unfold qfi altB altC
  have h := qfh (rest c + 2) c
  split
  · split
    · exact (h.trans (qp _ _)).trans (hm _)
    · exact h.trans (qp _ _)
  · exact h
theorem qn4 {c : K} (h : (qfi rec c).2.2 = true) : rest (qfi rec c).1 < rest c := by
  unfold qfi altB altC at h ⊢
  have h1 := (qfh (rest c + 2) c).2.1
  split at h
  · rename_i h2
    rw [if_pos h2]
    split at h
    · rename_i h3
      rw [if_pos h3]
      have h4 := qgk h3
      have h5 := (hm (qu (qcv (rest c + 2) c).1 [45, 62]).1).2.1
      simp only; omega
    · cases h
  · cases h
theorem quc (p : Int) (c : K) : Mon c (qf2 rec p c).1 := by
  unfold qf2 qyh qym
  have h := hm c
  split
  · split
    · exact (h.trans (qp _ _)).trans (qgp (fun c => qkx hm c) _)
    · exact h.trans (qp _ _)
  · exact h
omit hm in
theorem ql8 (c : K) (w : List UInt8) : Mon c (ifsK c w).1 := by
  unfold ifsK
  split
  · exact Mon.refl c
  · exact qp c w
theorem qpt (p : Int) : ∀ (l : List (List UInt8)) (c : K) (acc : List N), Mon c (qeh rec p l c acc).1
  | [], c, acc => Mon.refl c
  | w :: r, c, acc => by
    rw [qeh]
    split
    · split
      · exact ((ql8 c w).trans (hm _)).trans (qpt p r _ _)
      · exact (ql8 c w).trans (hm _)
    · exact ql8 c w
theorem qmn (c : K) : Mon c (qej rec c).1 := by
  unfold qej
  split
  · split
    · exact (qbb c _).trans (qhw hm _ _ _)
    · exact (qbb c _).trans (qfa _ 5)
  · split
    · exact (qbb c _).trans (qxa hm _ _)
    · split
      · exact (qbb c _).trans (quc hm _ _)
      · split
        · exact (qbb c _).trans (qpt hm _ _ _ _)
        · exact qwv hm c
end
theorem qhi : ∀ (f : Nat) (c : K), Mon c (qfx f c).1
  | 0, c => Mon.refl c
  | f + 1, c => by
    rw [qfx]
    split
    · exact ((qy c).trans (qmn (qhi f) _)).trans (qbv _)
    · exact qy c
set_option maxRecDepth 4000

def resB (r : N × Bool) : AV := .tup [enc r.1, .bool r.2]
attribute [go_sem] resB
theorem q1k (k : Nat) (r : N × Bool) : (resB r).bd k = true := by simp only [resB, AV.bd, AV.bds, qms, Bool.and_true]
theorem qn7 {P : Program} {f : FuncId} {c c' : K} {L : List Ent} {args : List AV} {r : N × Bool} {Q : List Ent → VO → Prop} (h : qco P f (curE c) (curE c') args (resB r)) (ha : AV.bds 1 args = true) (hq : Q (curE c' :: L) (.val (resB r))) : VApp P (curE c :: L) (.fn f [] []) args Q :=
  qb2 h (qbh _ _) (qbh _ _) ha (q1k _ _) fun _ => hq
theorem q8i (c : K) : qco Tryz.prog 93 (curE c) (curE c) [.ptr 0 0] (resP (qjd c)) := by
  refine qbd c0z 1 (by simp) (by simp) ?_
  repeat' (first | refine ql ?_ | refine qk ?_ | ((first | refine qn ?_ | refine qm ?_ | refine qj ?_ | refine qi ?_ | refine qdt ?_ | refine a_Is ?_); simp only [go_sem, ↓reduceIte, Nat.reduceEqDiff, Nat.reduceAdd, Nat.reduceSub, Nat.reduceMul, Nat.reduceLT, Nat.reduceLeDiff, reduceCtorEq, Int.reduceToNat]) | ((first | refine qf ?_ ?_ | refine qd ?_ ?_) <;> intro hc <;> simp only [hc, go_sem, ↓reduceIte, Nat.reduceEqDiff, Nat.reduceAdd, Nat.reduceSub, Nat.reduceMul, Nat.reduceLT, Nat.reduceLeDiff, reduceCtorEq, Int.reduceToNat] <;> (try simp only [qb, qa, decide_eq_true_eq, decide_eq_false_iff_not, Bool.and_eq_true] at hc)) | refine And.intro (by first | assumption | omega | (have := qg (by assumption); omega) | (unfold qq; omega)) ?_ | fail)
  all_goals (unfold qjd qh4; simp_all [enc, encs, N0])
theorem q1h {c : K} {L : List Ent} {Q : List Ent → VO → Prop} (hq : Q (curE c :: L) (.val (resP (qjd c)))) : VApp Tryz.prog (curE c :: L) (.fn 93 [] []) [.ptr 0 0] Q := qdh (q8i c) rfl hq
section
variable {rec : K → K × Option N} {b : Nat} (hm : ∀ c, Mon c (rec c).1) (ih : ∀ c, c.good → rest c < b → qco Tryz.prog 10 (curE c) (curE (rec c).1) [.ptr 0 0] (resP (rec c).2))
include hm ih
theorem qv4 (c : K) (hg : c.good) (hr : rest c ≤ b) : qco Tryz.prog 92 (curE c) (curE (qbl rec c).1) [.ptr 0 0] (resP (qbl rec c).2) := by
  have g1 : (qh c).1.good := (qy c).1 hg
  have g2 : (q8 (qh c).1).good := (qbt _).1 g1
  have g3 : (rec (q8 (qh c).1)).1.good := (hm _).1 g2
  have g4 : (qu (rec (q8 (qh c).1)).1 [41]).1.good := (qp _ _).1 g3
  have hrr : isK c [40] = true → (qh c).2 = true → rest (q8 (qh c).1) < b := fun h1 h2 => by
    have := qbj (c := (qh c).1) (by rw [qeg h2]; exact qdn h1)
    have := (qy c).2.1
    omega
  refine qbd c0ba 1 (by simp) (by simp) ?_
  repeat' (first | refine ql ?_ | ((first | refine qn ?_ | refine qm ?_ | refine qj ?_ | refine qi ?_ | refine q1h ?_ | refine a_Is ?_ | refine qpk ?_ | refine qg9 ?_ | refine qin hg.ok ?_ | refine qin g1.ok ?_ | refine qdh (ih _ g2 (hrr (by assumption) (by assumption))) rfl ?_ | refine qdz g3.ok ?_ | refine qfs g4.2.2 ?_); simp only [go_sem, ↓reduceIte, Nat.reduceEqDiff, Nat.reduceAdd, Nat.reduceSub, Nat.reduceMul, Nat.reduceLT, Nat.reduceLeDiff, reduceCtorEq, Int.reduceToNat]) | ((first | refine qf ?_ ?_ | refine qd ?_ ?_) <;> intro hc <;> simp only [hc, go_sem, ↓reduceIte, Nat.reduceEqDiff, Nat.reduceAdd, Nat.reduceSub, Nat.reduceMul, Nat.reduceLT, Nat.reduceLeDiff, reduceCtorEq, Int.reduceToNat] <;> (try simp only [qb, qa, decide_eq_true_eq, decide_eq_false_iff_not, Bool.and_eq_true] at hc)) | refine And.intro (by first | assumption | omega | (have := qg (by assumption); omega) | (unfold qq; omega)) ?_ | fail)
  all_goals (unfold qbl; simp only [*, qd7, Int.reduceEq, if_true, if_false, reduceIte, Bool.false_eq_true, Option.getD_none, Option.getD_some, Option.isSome_none, Option.isSome_some, and_self, true_and, and_true]; try rfl)
omit hm ih
/-- A variable that holds a tree: its row may be a literal. -/
def qld (fl : Bool) (n : N) : Ent := .blk [.int .i64 n.kind, .int .i64 n.pos, .int .i64 n.num, .str n.text, if fl = true then .lit 5 (encs n.kids) else .sl 5 (encs n.kids)]
theorem q9f {P : Program} {fr : Option Nat} {k m : Nat} {a : IC} {Q : VE → AF → List Ent → Prop} {af : AF} {A B : Ent} {L : List Ent} {fl : Bool} {n : N} (h : VI P fr k m a Q af (A :: B :: .blk (enc n).cells :: L)) : VI P fr k m a Q af (A :: B :: qld fl n :: L) := by
  cases n
  cases fl with
  | false => exact h
  | true =>
    refine qpy 2 4 (.sl 5) (by rfl) ?_
    simp only [List.getD_cons_succ, List.getD_cons_zero, if_true, qj4, List.set_cons_succ, List.set_cons_zero]
    exact h
include hm ih
def q1g (x : Bool × Nat × K × N × Bool) : AF × List Ent :=
  (⟨[(0, .ptr 0 0), (2, .ptr 1 0), (4, .ptr 2 0), (5, .bool x.2.2.2.2)], []⟩, [curE x.2.2.1, .blk [.int .i64 0, .int .i64 0, .int .i64 0, .str [], .nils], qld x.1 x.2.2.2.1])
theorem q52 (c : K) (hg : c.good) (hr : rest c ≤ b) : qco Tryz.prog 58 (curE c) (curE (qg2 rec c).1) [.ptr 0 0] (resB (qg2 rec c).2) := by
  refine qbd c0bb 1 (by simp) (by simp) ?_
  have g0 : (qbl rec c).1.good := (qdi hm c).1 hg
  have hr0 : rest (qbl rec c).1 ≤ b := by have := (qdi hm c).2.1; omega
  generalize htg : qg2 rec c = tg
  repeat' (first | refine ql ?_ | refine qk ?_ | ((first | refine qn ?_ | refine qm ?_ | refine qs ?_ | refine qj ?_ | refine qi ?_ | refine qdh (qv4 hm ih _ hg hr) rfl ?_); simp only [go_sem, ↓reduceIte, Nat.reduceEqDiff, Nat.reduceAdd, Nat.reduceSub, Nat.reduceMul, Nat.reduceLT, Nat.reduceLeDiff, reduceCtorEq, Int.reduceToNat]) | ((first | refine qf ?_ ?_ | refine qd ?_ ?_) <;> intro hc <;> simp only [hc, go_sem, ↓reduceIte, Nat.reduceEqDiff, Nat.reduceAdd, Nat.reduceSub, Nat.reduceMul, Nat.reduceLT, Nat.reduceLeDiff, reduceCtorEq, Int.reduceToNat] <;> (try simp only [qb, qa, decide_eq_true_eq, decide_eq_false_iff_not, Bool.and_eq_true] at hc)) | refine And.intro (by first | assumption | omega | (have := qg (by assumption); omega) | (unfold qq; omega)) ?_ | fail)
  refine qca (S := Bool × Nat × K × N × Bool) (fun x => x.2.2.1.good ∧ rest x.2.2.1 ≤ b ∧ (x.2.2.2.2 = true → qfm rec x.2.1 x.2.2.1 x.2.2.2.1 = tg ∧ rest x.2.2.1 < x.2.1) ∧ (x.2.2.2.2 = false → tg = (x.2.2.1, x.2.2.2.1, false)))
    q1g (fun x => if x.2.2.2.2 = true then rest x.2.2.1 + 1 else 0) ?_ ?_
  · refine qbq (false, rest (qbl rec c).1 + 1, (qbl rec c).1, (qbl rec c).2.getD N0, (qbl rec c).2.isSome) [0, 1, 2] ⟨g0, hr0, fun h => ⟨?_, Nat.lt_succ_self _⟩, fun h => ?_⟩ rfl (by simp) ?_ ?_ ?_
    · simp only at h; rw [← htg, qg2, if_pos h]
    · simp only at h; rw [← htg, qg2, if_neg (by rw [h]; simp)]
    all_goals simp only [q1g, qld]
    all_goals simp only [go_sem, ↓reduceIte, Nat.reduceEqDiff, Nat.reduceAdd, Nat.reduceSub, Nat.reduceMul, Nat.reduceLT, Nat.reduceLeDiff, reduceCtorEq, Int.reduceToNat]
  · rintro ⟨fl, fu, d, n, ok⟩ ⟨i1, i2, i3, i4⟩
    simp only at i1 i2 i3 i4
    unfold q1g
    refine q9f ?_
    cases ok with
    | false =>
      have i4 := i4 rfl
      subst i4
      repeat' (first | refine ql ?_ | refine qk ?_ | ((first | refine qn ?_ | refine qm ?_ | refine qs ?_ | refine qj ?_ | refine qi ?_); simp only [go_sem, ↓reduceIte, Nat.reduceEqDiff, Nat.reduceAdd, Nat.reduceSub, Nat.reduceMul, Nat.reduceLT, Nat.reduceLeDiff, reduceCtorEq, Int.reduceToNat]) | ((first | refine qf ?_ ?_ | refine qd ?_ ?_) <;> intro hc <;> simp only [hc, go_sem, ↓reduceIte, Nat.reduceEqDiff, Nat.reduceAdd, Nat.reduceSub, Nat.reduceMul, Nat.reduceLT, Nat.reduceLeDiff, reduceCtorEq, Int.reduceToNat] <;> (try simp only [qb, qa, decide_eq_true_eq, decide_eq_false_iff_not, Bool.and_eq_true] at hc)) | refine And.intro (by first | assumption | omega | (have := qg (by assumption); omega) | (unfold qq; omega)) ?_ | fail)
    | true =>
      obtain ⟨i3, i5⟩ := i3 rfl
      clear i4
      obtain ⟨fu, rfl⟩ : ∃ k, fu = k + 1 := ⟨fu - 1, by omega⟩
      rw [qfm] at i3
      have j1 : (qbl rec d).1.good := (qdi hm d).1 i1
      have j2 : rest (qbl rec d).1 ≤ rest d := (qdi hm d).2.1
      have key : begE d = true → (((qbl rec d).2.isSome = true → qfm rec fu (qbl rec d).1 (appN n ((qbl rec d).2.getD N0)) = tg ∧ rest (qbl rec d).1 < fu) ∧ ((qbl rec d).2.isSome = false → tg = ((qbl rec d).1, appN n ((qbl rec d).2.getD N0), false))) ∧
          (if (qbl rec d).2.isSome = true then rest (qbl rec d).1 + 1 else 0) < rest d + 1 := fun hb => by
        rw [if_pos hb] at i3
        refine ⟨⟨fun h => ?_, fun h => ?_⟩, ?_⟩
        · rw [if_pos h] at i3
          have := qiv hm h
          exact ⟨i3, by omega⟩
        · rw [if_neg (by rw [h]; simp)] at i3
          exact i3.symm
        · split
          · rename_i h
            have := qiv hm h
            omega
          · omega
      have e1 : (qjd d).isSome = true → begE d = true := fun h => by rw [begE, h]; rfl
      have e2 : isK d [40] = true → begE d = true := fun h => by rw [begE, h, Bool.or_true]
      repeat' (first | refine ql ?_ | refine qk ?_ | ((first | refine qn ?_ | refine qm ?_ | refine qs ?_ | refine qj ?_ | refine qi ?_ | refine q1h ?_ | refine a_Is ?_ | refine qdh (qv4 hm ih _ i1 i2) rfl ?_); simp only [go_sem, ↓reduceIte, Nat.reduceEqDiff, Nat.reduceAdd, Nat.reduceSub, Nat.reduceMul, Nat.reduceLT, Nat.reduceLeDiff, reduceCtorEq, Int.reduceToNat]) | ((first | refine qf ?_ ?_ | refine qd ?_ ?_) <;> intro hc <;> simp only [hc, go_sem, ↓reduceIte, Nat.reduceEqDiff, Nat.reduceAdd, Nat.reduceSub, Nat.reduceMul, Nat.reduceLT, Nat.reduceLeDiff, reduceCtorEq, Int.reduceToNat] <;> (try simp only [qb, qa, decide_eq_true_eq, decide_eq_false_iff_not, Bool.and_eq_true] at hc)) | refine And.intro (by first | assumption | omega | (have := qg (by assumption); omega) | (unfold qq; omega)) ?_ | fail)
      · have hb : ¬ begE d = true := by rw [begE]; simp_all
        rw [if_neg hb] at i3
        subst i3
        exact ⟨rfl, rfl⟩
      · obtain ⟨k1, k2⟩ := key (e2 (by assumption))
        refine qbq (true, fu, (qbl rec d).1, appN n ((qbl rec d).2.getD N0), (qbl rec d).2.isSome) [0, 1, 2] ⟨⟨j1, by simp only; omega, k1⟩, by simpa using k2⟩ rfl (by simp) ?_ ?_ ?_
        all_goals simp only [q1g, qld, appN, encs, N.kind, N.pos, N.num, N.text, N.kids]
        all_goals simp only [go_sem, ↓reduceIte, Nat.reduceEqDiff, Nat.reduceAdd, Nat.reduceSub, Nat.reduceMul, Nat.reduceLT, Nat.reduceLeDiff, reduceCtorEq, Int.reduceToNat]
      · obtain ⟨k1, k2⟩ := key (e1 (by assumption))
        refine qbq (true, fu, (qbl rec d).1, appN n ((qbl rec d).2.getD N0), (qbl rec d).2.isSome) [0, 1, 2] ⟨⟨j1, by simp only; omega, k1⟩, by simpa using k2⟩ rfl (by simp) ?_ ?_ ?_
        all_goals simp only [q1g, qld, appN, encs, N.kind, N.pos, N.num, N.text, N.kids]
        all_goals simp only [go_sem, ↓reduceIte, Nat.reduceEqDiff, Nat.reduceAdd, Nat.reduceSub, Nat.reduceMul, Nat.reduceLT, Nat.reduceLeDiff, reduceCtorEq, Int.reduceToNat]
end
set_option maxRecDepth 4000

theorem qu6 (t : T) (n : N) : AV.agg [.int .i64 25, .int .i64 t.pos, .int .i64 0, .str t.text, .sl 5 [enc n]] = enc (lamN t n) := by simp only [lamN, enc, encs]
theorem qfu (k : Int) (t : T) (n : N) : AV.agg [.int .i64 k, .int .i64 t.pos, .int .i64 0, .str t.text, .sl 5 [enc n]] = enc (qro k t n) := by simp only [qro, enc, encs]
section
variable {rec : K → K × Option N} {b : Nat} (ih : ∀ c, c.good → rest c < b → qco Tryz.prog 10 (curE c) (curE (rec c).1) [.ptr 0 0] (resP (rec c).2))
include ih
theorem qqq (x : List UInt8) : ∀ (f : Nat) (c : K), c.good → rest c ≤ b → rest c < f → qco Tryz.prog 23 (curE c) (curE (qci rec x f c).1) [.ptr 0 0, .str x] (resB (qci rec x f c).2)
  | 0, c => fun _ _ h => absurd h (by omega)
  | f + 1, c => fun hg hb hf => by
    have g1 : (q8 c).good := (qbt c).1 hg
    have g2 : (qu c x).1.good := (qp c x).1 hg
    refine qbd c0x 1 (by simp) (by simp) ?_
    by_cases hk : (qbc c).kind = 1
    · have hrn := qbj (c := c) (by omega)
      have hl := qqq x f (q8 c) g1 (by omega) (by omega)
      have hpa : qci rec x (f + 1) c = ((qci rec x f (q8 c)).1, lamN (qbc c) (qci rec x f (q8 c)).2.1, (qci rec x f (q8 c)).2.2) := by rw [qci, if_pos hk]
      rw [hpa]
      clear hpa
      generalize qci rec x f (q8 c) = r at *
      repeat' (first | refine ql ?_ | ((first | refine qn ?_ | refine qm ?_ | refine qj ?_ | refine qi ?_); simp (disch := first | omega | (simp only [List.length_set, List.length_append, List.length_cons, List.length_nil]; done) | (simp only [List.length_set, List.length_append, List.length_cons, List.length_nil]; omega)) only [hk, ne_eq, not_true_eq_false, decide_false, go_sem, ↓reduceIte, Nat.reduceEqDiff, Nat.reduceAdd, Nat.reduceSub, Nat.reduceMul, Nat.reduceLT, Nat.reduceLeDiff, reduceCtorEq, Int.reduceToNat]) | ((first | refine qf ?_ ?_ | refine qd ?_ ?_) <;> intro hc <;> simp only [hc, go_sem, ↓reduceIte, Nat.reduceEqDiff, Nat.reduceAdd, Nat.reduceSub, Nat.reduceMul, Nat.reduceLT, Nat.reduceLeDiff, reduceCtorEq, Int.reduceToNat] <;> (try simp only [qb, qa, decide_eq_true_eq, decide_eq_false_iff_not, Bool.and_eq_true] at hc)) | refine And.intro (by first | assumption | omega | (have := qg (by assumption); omega) | (unfold qq; omega)) ?_ | fail | ((first | refine qdt ?_ | refine qin hg.ok ?_ | refine qn7 hl rfl ?_); simp only [go_sem, ↓reduceIte, Nat.reduceEqDiff, Nat.reduceAdd, Nat.reduceSub, Nat.reduceMul, Nat.reduceLT, Nat.reduceLeDiff, reduceCtorEq, Int.reduceToNat]))
      all_goals first | (rw [qu6]; done) | (rw [qu6]; rfl) | (rw [qu6]; exact ⟨rfl, rfl⟩)
    · by_cases hw : (qu c x).2 = true
      · have hlt := qgk hw
        have hpa : qci rec x (f + 1) c = ofO (rec (qu c x).1) := by rw [qci, if_neg hk, if_pos hw]
        rw [hpa, ofO]
        repeat' (first | refine ql ?_ | ((first | refine qn ?_ | refine qm ?_ | refine qj ?_ | refine qi ?_); simp (disch := first | omega | (simp only [List.length_set, List.length_append, List.length_cons, List.length_nil]; done) | (simp only [List.length_set, List.length_append, List.length_cons, List.length_nil]; omega)) only [hk, hw, ne_eq, not_false_eq_true, decide_true, go_sem, ↓reduceIte, Nat.reduceEqDiff, Nat.reduceAdd, Nat.reduceSub, Nat.reduceMul, Nat.reduceLT, Nat.reduceLeDiff, reduceCtorEq, Int.reduceToNat]) | ((first | refine qf ?_ ?_ | refine qd ?_ ?_) <;> intro hc <;> simp only [hc, go_sem, ↓reduceIte, Nat.reduceEqDiff, Nat.reduceAdd, Nat.reduceSub, Nat.reduceMul, Nat.reduceLT, Nat.reduceLeDiff, reduceCtorEq, Int.reduceToNat] <;> (try simp only [qb, qa, decide_eq_true_eq, decide_eq_false_iff_not, Bool.and_eq_true] at hc)) | refine And.intro (by first | assumption | omega | (have := qg (by assumption); omega) | (unfold qq; omega)) ?_ | fail | ((first | refine qdt ?_ | refine qdz hg.ok ?_ | refine qdh (ih _ g2 (by omega)) rfl ?_); simp only [go_sem, ↓reduceIte, Nat.reduceEqDiff, Nat.reduceAdd, Nat.reduceSub, Nat.reduceMul, Nat.reduceLT, Nat.reduceLeDiff, reduceCtorEq, Int.reduceToNat]))
      · have hpa : qci rec x (f + 1) c = ((qu c x).1, N0, false) := by rw [qci, if_neg hk, if_neg hw]
        rw [hpa]
        repeat' (first | refine ql ?_ | ((first | refine qn ?_ | refine qm ?_ | refine qj ?_ | refine qi ?_); simp (disch := first | omega | (simp only [List.length_set, List.length_append, List.length_cons, List.length_nil]; done) | (simp only [List.length_set, List.length_append, List.length_cons, List.length_nil]; omega)) only [hk, hw, ne_eq, not_false_eq_true, decide_true, go_sem, ↓reduceIte, Nat.reduceEqDiff, Nat.reduceAdd, Nat.reduceSub, Nat.reduceMul, Nat.reduceLT, Nat.reduceLeDiff, reduceCtorEq, Int.reduceToNat]) | ((first | refine qf ?_ ?_ | refine qd ?_ ?_) <;> intro hc <;> simp only [hc, go_sem, ↓reduceIte, Nat.reduceEqDiff, Nat.reduceAdd, Nat.reduceSub, Nat.reduceMul, Nat.reduceLT, Nat.reduceLeDiff, reduceCtorEq, Int.reduceToNat] <;> (try simp only [qb, qa, decide_eq_true_eq, decide_eq_false_iff_not, Bool.and_eq_true] at hc)) | refine And.intro (by first | assumption | omega | (have := qg (by assumption); omega) | (unfold qq; omega)) ?_ | fail | ((first | refine qdt ?_ | refine qdz hg.ok ?_); simp only [go_sem, ↓reduceIte, Nat.reduceEqDiff, Nat.reduceAdd, Nat.reduceSub, Nat.reduceMul, Nat.reduceLT, Nat.reduceLeDiff, reduceCtorEq, Int.reduceToNat]))
        all_goals first | (rw [qd7]; done) | (rw [qd7]; rfl) | (rw [qd7]; exact ⟨rfl, rfl⟩)
theorem qo3 (c : K) (hg : c.good) (hr : rest c ≤ b) : qco Tryz.prog 8 (curE c) (curE (qcj rec c).1) [.ptr 0 0] (resP (qcj rec c).2) := by
  have g1 : (qbk c 1).1.good := (qc8 c 1).1 hg
  have hr1 : rest (qbk c 1).1 ≤ b := by have := (qc8 c 1).2.1; omega
  have g2 : (qr (qbk c 1).1 [58, 58]).1.good := (qbb _ _).1 g1
  have hl := qqq ih [61] (rest (qbk c 1).1 + 1) (qbk c 1).1 g1 hr1 (Nat.lt_succ_self _)
  have hq := qxh (rest (qr (qbk c 1).1 [58, 58]).1 + 2) (qr (qbk c 1).1 [58, 58]).1 g2 (by omega)
  have ht0 : (qr (qbk c 1).1 [58, 58]).2 = false → (qr (qbk c 1).1 [58, 58]).1 = (qbk c 1).1 := fun h => qdj h
  refine qbd c0y 1 (by simp) (by simp) ?_
  unfold qcj
  generalize qci rec [61] (rest (qbk c 1).1 + 1) (qbk c 1).1 = r at *
  generalize qep (rest (qr (qbk c 1).1 [58, 58]).1 + 2) (qr (qbk c 1).1 [58, 58]).1 = q at *
  by_cases hk : (qbk c 1).2 = true
  · rw [if_pos hk]
    by_cases ht : (qr (qbk c 1).1 [58, 58]).2 = true
    · rw [if_pos ht]
      cases ho : q.2 with
      | none =>
        rw [ho] at hq
        repeat' (first | refine ql ?_ | ((first | refine qn ?_ | refine qm ?_ | refine qj ?_ | refine qi ?_); simp (disch := first | omega | (simp only [List.length_set, List.length_append, List.length_cons, List.length_nil]; done) | (simp only [List.length_set, List.length_append, List.length_cons, List.length_nil]; omega)) only [hk, ht, Option.isSome_none, Option.getD_none, go_sem, ↓reduceIte, Nat.reduceEqDiff, Nat.reduceAdd, Nat.reduceSub, Nat.reduceMul, Nat.reduceLT, Nat.reduceLeDiff, reduceCtorEq, Int.reduceToNat]) | ((first | refine qf ?_ ?_ | refine qd ?_ ?_) <;> intro hc <;> simp only [hc, go_sem, ↓reduceIte, Nat.reduceEqDiff, Nat.reduceAdd, Nat.reduceSub, Nat.reduceMul, Nat.reduceLT, Nat.reduceLeDiff, reduceCtorEq, Int.reduceToNat] <;> (try simp only [qb, qa, decide_eq_true_eq, decide_eq_false_iff_not, Bool.and_eq_true] at hc)) | refine And.intro (by first | assumption | omega | (have := qg (by assumption); omega) | (unfold qq; omega)) ?_ | fail | ((first | refine qpv hg.ok ?_ | refine qe9 g1.ok ?_ | refine qdh hq rfl ?_); simp only [go_sem, ↓reduceIte, Nat.reduceEqDiff, Nat.reduceAdd, Nat.reduceSub, Nat.reduceMul, Nat.reduceLT, Nat.reduceLeDiff, reduceCtorEq, Int.reduceToNat]))
        all_goals first | (rw [qd7]; done) | (rw [qd7]; rfl) | (rw [qd7]; exact ⟨rfl, rfl⟩)
      | some n =>
        rw [ho] at hq
        repeat' (first | refine ql ?_ | ((first | refine qn ?_ | refine qm ?_ | refine qj ?_ | refine qi ?_); simp (disch := first | omega | (simp only [List.length_set, List.length_append, List.length_cons, List.length_nil]; done) | (simp only [List.length_set, List.length_append, List.length_cons, List.length_nil]; omega)) only [hk, ht, Option.isSome_some, Option.getD_some, go_sem, ↓reduceIte, Nat.reduceEqDiff, Nat.reduceAdd, Nat.reduceSub, Nat.reduceMul, Nat.reduceLT, Nat.reduceLeDiff, reduceCtorEq, Int.reduceToNat]) | ((first | refine qf ?_ ?_ | refine qd ?_ ?_) <;> intro hc <;> simp only [hc, go_sem, ↓reduceIte, Nat.reduceEqDiff, Nat.reduceAdd, Nat.reduceSub, Nat.reduceMul, Nat.reduceLT, Nat.reduceLeDiff, reduceCtorEq, Int.reduceToNat] <;> (try simp only [qb, qa, decide_eq_true_eq, decide_eq_false_iff_not, Bool.and_eq_true] at hc)) | refine And.intro (by first | assumption | omega | (have := qg (by assumption); omega) | (unfold qq; omega)) ?_ | fail | ((first | refine qpv hg.ok ?_ | refine qe9 g1.ok ?_ | refine qdh hq rfl ?_); simp only [go_sem, ↓reduceIte, Nat.reduceEqDiff, Nat.reduceAdd, Nat.reduceSub, Nat.reduceMul, Nat.reduceLT, Nat.reduceLeDiff, reduceCtorEq, Int.reduceToNat]))
        all_goals first | (rw [qfu]; done) | (rw [qfu]; rfl) | (rw [qfu]; exact ⟨rfl, rfl⟩)
    · rw [if_neg ht]
      have ht : (qr (qbk c 1).1 [58, 58]).2 = false := by simpa using ht
      have ht0 := ht0 ht
      obtain ⟨d, n, ok⟩ := r
      simp only [toO] at hl ⊢
      rw [← ht0] at hl
      cases ok with
      | false =>
        repeat' (first | refine ql ?_ | ((first | refine qn ?_ | refine qm ?_ | refine qj ?_ | refine qi ?_); simp (disch := first | omega | (simp only [List.length_set, List.length_append, List.length_cons, List.length_nil]; done) | (simp only [List.length_set, List.length_append, List.length_cons, List.length_nil]; omega)) only [hk, ht, go_sem, ↓reduceIte, Nat.reduceEqDiff, Nat.reduceAdd, Nat.reduceSub, Nat.reduceMul, Nat.reduceLT, Nat.reduceLeDiff, reduceCtorEq, Int.reduceToNat]) | ((first | refine qf ?_ ?_ | refine qd ?_ ?_) <;> intro hc <;> simp only [hc, go_sem, ↓reduceIte, Nat.reduceEqDiff, Nat.reduceAdd, Nat.reduceSub, Nat.reduceMul, Nat.reduceLT, Nat.reduceLeDiff, reduceCtorEq, Int.reduceToNat] <;> (try simp only [qb, qa, decide_eq_true_eq, decide_eq_false_iff_not, Bool.and_eq_true] at hc)) | refine And.intro (by first | assumption | omega | (have := qg (by assumption); omega) | (unfold qq; omega)) ?_ | fail | ((first | refine qpv hg.ok ?_ | refine qe9 g1.ok ?_ | refine qn7 hl rfl ?_); simp only [go_sem, ↓reduceIte, Nat.reduceEqDiff, Nat.reduceAdd, Nat.reduceSub, Nat.reduceMul, Nat.reduceLT, Nat.reduceLeDiff, reduceCtorEq, Int.reduceToNat]))
        all_goals first | (rw [qd7]; done) | (rw [qd7]; rfl) | (rw [qd7]; exact ⟨rfl, rfl⟩)
      | true =>
        repeat' (first | refine ql ?_ | ((first | refine qn ?_ | refine qm ?_ | refine qj ?_ | refine qi ?_); simp (disch := first | omega | (simp only [List.length_set, List.length_append, List.length_cons, List.length_nil]; done) | (simp only [List.length_set, List.length_append, List.length_cons, List.length_nil]; omega)) only [hk, ht, go_sem, ↓reduceIte, Nat.reduceEqDiff, Nat.reduceAdd, Nat.reduceSub, Nat.reduceMul, Nat.reduceLT, Nat.reduceLeDiff, reduceCtorEq, Int.reduceToNat]) | ((first | refine qf ?_ ?_ | refine qd ?_ ?_) <;> intro hc <;> simp only [hc, go_sem, ↓reduceIte, Nat.reduceEqDiff, Nat.reduceAdd, Nat.reduceSub, Nat.reduceMul, Nat.reduceLT, Nat.reduceLeDiff, reduceCtorEq, Int.reduceToNat] <;> (try simp only [qb, qa, decide_eq_true_eq, decide_eq_false_iff_not, Bool.and_eq_true] at hc)) | refine And.intro (by first | assumption | omega | (have := qg (by assumption); omega) | (unfold qq; omega)) ?_ | fail | ((first | refine qpv hg.ok ?_ | refine qe9 g1.ok ?_ | refine qn7 hl rfl ?_); simp only [go_sem, ↓reduceIte, Nat.reduceEqDiff, Nat.reduceAdd, Nat.reduceSub, Nat.reduceMul, Nat.reduceLT, Nat.reduceLeDiff, reduceCtorEq, Int.reduceToNat]))
        all_goals first | (rw [qfu]; done) | (rw [qfu]; rfl) | (rw [qfu]; exact ⟨rfl, rfl⟩)
  · rw [if_neg hk]
    repeat' (first | refine ql ?_ | ((first | refine qn ?_ | refine qm ?_ | refine qj ?_ | refine qi ?_); simp (disch := first | omega | (simp only [List.length_set, List.length_append, List.length_cons, List.length_nil]; done) | (simp only [List.length_set, List.length_append, List.length_cons, List.length_nil]; omega)) only [hk, go_sem, ↓reduceIte, Nat.reduceEqDiff, Nat.reduceAdd, Nat.reduceSub, Nat.reduceMul, Nat.reduceLT, Nat.reduceLeDiff, reduceCtorEq, Int.reduceToNat]) | ((first | refine qf ?_ ?_ | refine qd ?_ ?_) <;> intro hc <;> simp only [hc, go_sem, ↓reduceIte, Nat.reduceEqDiff, Nat.reduceAdd, Nat.reduceSub, Nat.reduceMul, Nat.reduceLT, Nat.reduceLeDiff, reduceCtorEq, Int.reduceToNat] <;> (try simp only [qb, qa, decide_eq_true_eq, decide_eq_false_iff_not, Bool.and_eq_true] at hc)) | refine And.intro (by first | assumption | omega | (have := qg (by assumption); omega) | (unfold qq; omega)) ?_ | fail | ((first | refine qpv hg.ok ?_); simp only [go_sem, ↓reduceIte, Nat.reduceEqDiff, Nat.reduceAdd, Nat.reduceSub, Nat.reduceMul, Nat.reduceLT, Nat.reduceLeDiff, reduceCtorEq, Int.reduceToNat]))
    all_goals first | (rw [qd7]; done) | (rw [qd7]; rfl) | (rw [qd7]; exact ⟨rfl, rfl⟩)
end
set_option maxRecDepth 4000

/-- A function over the variable that holds the cursor. -/
def VClo (g : FuncId) (c c' : K) (r : N × Bool) : Prop := VCalls Tryz.prog g [curE c, .blk [.ptr 0 0]] [.ptr 1 0] fun H' o => H' = [curE c', .blk [.ptr 0 0]] ∧ o = .val (resB r)
theorem qmf (c : K) : [curE c, .blk [.ptr 0 0]].all (Ent.bd 2) = true := by
  simp only [List.all_cons, List.all_nil, qbh, Bool.true_and, Bool.and_true]; rfl
theorem qp5 {g : FuncId} {c c' : K} {r : N × Bool} {L : List Ent} {Q : List Ent → VO → Prop} (h : VClo g c c' r) (hq : Q (curE c' :: .blk [.ptr 0 0] :: L) (.val (resB r))) : VApp Tryz.prog (curE c :: .blk [.ptr 0 0] :: L) (.fn g [] [.ptr 1 0]) [] Q :=
  qha (first := []) (caps := [.ptr 1 0]) (by
    simp only [List.nil_append]
    refine qi5 (H0 := [curE c, .blk [.ptr 0 0]]) (L := L) h (qmf c) rfl ?_
    rintro H1 o ⟨rfl, rfl⟩
    exact ⟨rfl, qmf c', q1k _ _, hq⟩)
def ql3 (rd : K → R3) (g : FuncId) (c : K) : Prop := VCalls Tryz.prog 88 [curE c, .blk [.ptr 0 0]] [.ptr 0 0, .fn g [] [.ptr 1 0]] fun H' o =>
  H' = curE (qbn rd c).1 :: .blk [.ptr 0 0] :: accE 5 (encs (qbn rd c).2.1) ∧ o = .val (.tup [accV 2 (encs (qbn rd c).2.1), .bool (qbn rd c).2.2])
def qtp (g : FuncId) (x : Nat × K × List N) : AF × List Ent :=
  (⟨[(0, .ptr 0 0), (1, .fn g [] [.ptr 1 0]), (6, accV 2 (encs x.2.2))], []⟩, curE x.2.1 :: .blk [.ptr 0 0] :: accE 5 (encs x.2.2))
theorem qwe {rd : K → R3} {g : FuncId} {b : Nat} (hd : ∀ c, Mon c (rd c).1) (hl : ∀ c, (rd c).2.2 = true → rest (rd c).1 < rest c) (ih : ∀ c, c.good → rest c ≤ b → VClo g c (rd c).1 (rd c).2) (c : K) (hg : c.good) (hr : rest c ≤ b) : ql3 rd g c := by
  unfold ql3
  obtain ⟨kk, hk1, hk2, hk0⟩ : ∃ k : Nat, ((qbn rd c).2.1 = [] → k = 2) ∧ ((qbn rd c).2.1 ≠ [] → k = 3) ∧ 2 ≤ k := by
    by_cases h : (qbn rd c).2.1 = []
    · exact ⟨2, fun _ => rfl, fun g => absurd h g, by omega⟩
    · exact ⟨3, fun g => absurd g h, fun _ => rfl, by omega⟩
  refine qi2 c0w kk (by simpa using hk0) (by simp) ?_
  have g1 : (qu c [123]).1.good := (qp c _).1 hg
  have hr1 : rest (qu c [123]).1 ≤ b := by have := (qp c [123]).2.1; omega
  by_cases hw : (qu c [123]).2 = true
  · have hpa : qbn rd c = qb4 rd (rest (qu c [123]).1 + 1) (qu c [123]).1 [] := by rw [qbn, if_pos hw]
    rw [hpa] at hk1 hk2 ⊢
    clear hpa
    generalize htg : qb4 rd (rest (qu c [123]).1 + 1) (qu c [123]).1 [] = tg at hk1 hk2 ⊢
    repeat' (first | refine ql ?_ | refine qk ?_ | ((first | refine qn ?_ | refine qm ?_ | refine qj ?_ | refine qi ?_); simp (disch := first | omega | (simp only [List.length_set, List.length_append, List.length_cons, List.length_nil]; done) | (simp only [List.length_set, List.length_append, List.length_cons, List.length_nil]; omega)) only [hw, go_sem, ↓reduceIte, Nat.reduceEqDiff, Nat.reduceAdd, Nat.reduceSub, Nat.reduceMul, Nat.reduceLT, Nat.reduceLeDiff, reduceCtorEq, Int.reduceToNat]) | ((first | refine qf ?_ ?_ | refine qd ?_ ?_) <;> intro hc <;> simp only [hc, go_sem, ↓reduceIte, Nat.reduceEqDiff, Nat.reduceAdd, Nat.reduceSub, Nat.reduceMul, Nat.reduceLT, Nat.reduceLeDiff, reduceCtorEq, Int.reduceToNat] <;> (try simp only [qb, qa, decide_eq_true_eq, decide_eq_false_iff_not, Bool.and_eq_true] at hc)) | refine And.intro (by first | assumption | omega | (have := qg (by assumption); omega) | (unfold qq; omega)) ?_ | fail | ((first | refine qdz hg.ok ?_); simp only [go_sem, ↓reduceIte, Nat.reduceEqDiff, Nat.reduceAdd, Nat.reduceSub, Nat.reduceMul, Nat.reduceLT, Nat.reduceLeDiff, reduceCtorEq, Int.reduceToNat]))
    refine qca (S := Nat × K × List N) (fun x => x.2.1.good ∧ rest x.2.1 ≤ b ∧ qb4 rd x.1 x.2.1 x.2.2 = tg ∧ rest x.2.1 < x.1 ∧ x.2.2.length + rest x.2.1 ≤ 1048577)
      (qtp g) (fun x => rest x.2.1) ?_ ?_
    · refine qbq (rest (qu c [123]).1 + 1, (qu c [123]).1, []) [0, 1] ⟨g1, hr1, htg, Nat.lt_succ_self _, ?_⟩ rfl (by simp) ?_ ?_ ?_
      · have h9 := g1.rest
        unfold rest
        simp only [List.length_nil]
        omega
      all_goals simp only [qtp, encs, qbs, qbu]
      all_goals simp only [go_sem, ↓reduceIte, Nat.reduceEqDiff, Nat.reduceAdd, Nat.reduceSub, Nat.reduceMul, Nat.reduceLT, Nat.reduceLeDiff, reduceCtorEq, Int.reduceToNat]
    · rintro ⟨fu, d, acc⟩ ⟨i1, i2, i3, i4, i5⟩
      simp only at i1 i2 i3 i4 i5
      obtain ⟨fu, rfl⟩ : ∃ k, fu = k + 1 := ⟨fu - 1, by omega⟩
      rw [qb4] at i3
      have hcap : qq (acc.length + 1) 64 := capN (by omega)
      have hclo := ih d i1 i2
      have hlt := hl d
      have j1 : (rd d).1.good := (hd d).1 i1
      have j2 := (hd d).2.1
      generalize rd d = r at *
      obtain ⟨d', n, ok⟩ := r
      simp only at j1 j2 hlt i3 hclo
      unfold qtp q9r
      generalize h9 : q99 = R9
      cases ok with
      | false =>
        rw [if_neg (by simp)] at i3
        subst i3
        obtain rfl := hk1 rfl
        by_cases h0 : acc = []
        · subst h0
          simp only [encs, qbs, qbu]
          repeat' (first | refine ql ?_ | refine qk ?_ | ((first | refine qn ?_ | refine qm ?_ | refine qj ?_ | refine qi ?_ | refine qp5 hclo ?_); simp only [go_sem, ↓reduceIte, Nat.reduceEqDiff, Nat.reduceAdd, Nat.reduceSub, Nat.reduceMul, Nat.reduceLT, Nat.reduceLeDiff, reduceCtorEq, Int.reduceToNat]) | ((first | refine qf ?_ ?_ | refine qd ?_ ?_) <;> intro hc <;> simp only [hc, go_sem, ↓reduceIte, Nat.reduceEqDiff, Nat.reduceAdd, Nat.reduceSub, Nat.reduceMul, Nat.reduceLT, Nat.reduceLeDiff, reduceCtorEq, Int.reduceToNat] <;> (try simp only [qb, qa, decide_eq_true_eq, decide_eq_false_iff_not, Bool.and_eq_true] at hc)) | refine And.intro (by first | assumption | omega | (have := qg (by assumption); omega) | (unfold qq; omega)) ?_ | fail)
          all_goals first | exact ⟨rfl, rfl⟩
        · have hne := qch h0
          simp only [qb9 hne, qb7 hne, qb0]
          repeat' (first | refine ql ?_ | refine qk ?_ | ((first | refine qn ?_ | refine qm ?_ | refine qj ?_ | refine qi ?_ | refine qp5 hclo ?_); simp only [go_sem, ↓reduceIte, Nat.reduceEqDiff, Nat.reduceAdd, Nat.reduceSub, Nat.reduceMul, Nat.reduceLT, Nat.reduceLeDiff, reduceCtorEq, Int.reduceToNat]) | ((first | refine qf ?_ ?_ | refine qd ?_ ?_) <;> intro hc <;> simp only [hc, go_sem, ↓reduceIte, Nat.reduceEqDiff, Nat.reduceAdd, Nat.reduceSub, Nat.reduceMul, Nat.reduceLT, Nat.reduceLeDiff, reduceCtorEq, Int.reduceToNat] <;> (try simp only [qb, qa, decide_eq_true_eq, decide_eq_false_iff_not, Bool.and_eq_true] at hc)) | refine And.intro (by first | assumption | omega | (have := qg (by assumption); omega) | (unfold qq; omega)) ?_ | fail)
          all_goals first | exact ⟨rfl, rfl⟩
      | true =>
        have hlt := hlt rfl
        rw [if_pos rfl] at i3
        by_cases h0 : acc = []
        · subst h0
          simp only [encs, qbs, qbu]
          repeat' (first | refine ql ?_ | refine qk ?_ | ((first | refine qn ?_ | refine qm ?_ | refine qj ?_ | refine qi ?_ | refine qp5 hclo ?_); simp only [go_sem, ↓reduceIte, Nat.reduceEqDiff, Nat.reduceAdd, Nat.reduceSub, Nat.reduceMul, Nat.reduceLT, Nat.reduceLeDiff, reduceCtorEq, Int.reduceToNat]) | ((first | refine qf ?_ ?_ | refine qd ?_ ?_) <;> intro hc <;> simp only [hc, go_sem, ↓reduceIte, Nat.reduceEqDiff, Nat.reduceAdd, Nat.reduceSub, Nat.reduceMul, Nat.reduceLT, Nat.reduceLeDiff, reduceCtorEq, Int.reduceToNat] <;> (try simp only [qb, qa, decide_eq_true_eq, decide_eq_false_iff_not, Bool.and_eq_true] at hc)) | refine And.intro (by first | assumption | omega | (have := qg (by assumption); omega) | (unfold qq; omega)) ?_ | fail)
          refine qbtd (af' := ⟨[(0, .ptr 0 0), (1, .fn g [] [.ptr 1 0]), (6, .row 2 1)], []⟩) (H' := [curE d', .blk [.ptr 0 0], .app 5 (encs ([] ++ [n]))]) ?_ (qbiv [0, 1, 3] rfl (by simp) ?_ ?_ ?_)
          rotate_left
          all_goals (try simp only [← qz, List.nil_append, encs, List.length_nil])
          all_goals (try simp only [go_sem, ↓reduceIte, Nat.reduceEqDiff, Nat.reduceAdd, Nat.reduceSub, Nat.reduceMul, Nat.reduceLT, Nat.reduceLeDiff, reduceCtorEq, Int.reduceToNat])
          all_goals (try (rw [qz, qb8, qc1]; exact ⟨rfl, rfl⟩))
          subst h9
          have hta : (qr d' [59]).1.good := (qbb _ _).1 j1
          have htr := (qbb d' [59]).2.1
          have hne3 : ¬ [] ++ [n] = [] := by simp
          have hlen : ([] ++ [n]).length = 1 := by simp
          repeat' (first | refine ql ?_ | refine qk ?_ | ((first | refine qn ?_ | refine qm ?_ | refine qj ?_ | refine qi ?_ | refine qe9 j1.ok ?_ | refine a_Is ?_ | refine qdz hta.ok ?_); simp only [go_sem, ↓reduceIte, Nat.reduceEqDiff, Nat.reduceAdd, Nat.reduceSub, Nat.reduceMul, Nat.reduceLT, Nat.reduceLeDiff, reduceCtorEq, Int.reduceToNat]) | ((first | refine qf ?_ ?_ | refine qd ?_ ?_) <;> intro hc <;> simp only [hc, go_sem, ↓reduceIte, Nat.reduceEqDiff, Nat.reduceAdd, Nat.reduceSub, Nat.reduceMul, Nat.reduceLT, Nat.reduceLeDiff, reduceCtorEq, Int.reduceToNat] <;> (try simp only [qb, qa, decide_eq_true_eq, decide_eq_false_iff_not, Bool.and_eq_true] at hc)) | refine And.intro (by first | assumption | omega | (have := qg (by assumption); omega) | (unfold qq; omega)) ?_ | fail)
          · have ht : (qr d' [59]).2 = false := by assumption
            rw [ht, Bool.false_and, if_neg (by simp)] at i3
            subst i3
            obtain rfl := hk2 (by simp)
            simp only [qb7 (qch hne3), qb9 (qch hne3), qb0, hlen, ← qz]
            simp only [go_sem, ↓reduceIte, Nat.reduceEqDiff, Nat.reduceAdd, Nat.reduceSub, Nat.reduceMul, Nat.reduceLT, Nat.reduceLeDiff, reduceCtorEq, Int.reduceToNat]
            all_goals first | (rw [qz]; exact qb8 _ _) | exact ⟨rfl, rfl⟩ | rfl | (rw [qz, qb8, qc1]; exact ⟨rfl, rfl⟩)
          · have ht : (qr d' [59]).2 = true := by assumption
            have hi : isK (qr d' [59]).1 [125] = true := by assumption
            rw [ht, hi, Bool.true_and, Bool.not_true, if_neg (by simp)] at i3
            subst i3
            obtain rfl := hk2 (by simp)
            simp only [qb7 (qch hne3), qb9 (qch hne3), qb0, hlen, ← qz]
            simp only [go_sem, ↓reduceIte, Nat.reduceEqDiff, Nat.reduceAdd, Nat.reduceSub, Nat.reduceMul, Nat.reduceLT, Nat.reduceLeDiff, reduceCtorEq, Int.reduceToNat]
            all_goals first | (rw [qz]; exact qb8 _ _) | exact ⟨rfl, rfl⟩ | rfl | (rw [qz, qb8, qc1]; exact ⟨rfl, rfl⟩)
          · have ht : (qr d' [59]).2 = true := by assumption
            have hi : isK (qr d' [59]).1 [125] = false := by assumption
            rw [ht, hi, Bool.true_and, Bool.not_false, if_pos rfl] at i3
            have htl := qea ht
            refine qbq (fu, (qr d' [59]).1, [] ++ [n]) [0, 1, 2] ⟨⟨hta, by simp only; omega, i3, by simp only; omega, by simp only [hlen]; omega⟩, by simp only; omega⟩ rfl (by simp) ?_ ?_ ?_
            all_goals simp only [qtp, qb7 (qch hne3), qb9 (qch hne3), qb0, hlen, ← qz]
            all_goals simp only [go_sem, ↓reduceIte, Nat.reduceEqDiff, Nat.reduceAdd, Nat.reduceSub, Nat.reduceMul, Nat.reduceLT, Nat.reduceLeDiff, reduceCtorEq, Int.reduceToNat]
            all_goals first | (rw [qz]; exact qb8 _ _) | exact ⟨rfl, rfl⟩ | rfl | (rw [qz, qb8, qc1]; exact ⟨rfl, rfl⟩)
        · have hne := qch h0
          simp only [qb9 hne, qb7 hne, qb0]
          repeat' (first | refine ql ?_ | refine qk ?_ | ((first | refine qn ?_ | refine qm ?_ | refine qj ?_ | refine qi ?_ | refine qp5 hclo ?_); simp only [go_sem, ↓reduceIte, Nat.reduceEqDiff, Nat.reduceAdd, Nat.reduceSub, Nat.reduceMul, Nat.reduceLT, Nat.reduceLeDiff, reduceCtorEq, Int.reduceToNat]) | ((first | refine qf ?_ ?_ | refine qd ?_ ?_) <;> intro hc <;> simp only [hc, go_sem, ↓reduceIte, Nat.reduceEqDiff, Nat.reduceAdd, Nat.reduceSub, Nat.reduceMul, Nat.reduceLT, Nat.reduceLeDiff, reduceCtorEq, Int.reduceToNat] <;> (try simp only [qb, qa, decide_eq_true_eq, decide_eq_false_iff_not, Bool.and_eq_true] at hc)) | refine And.intro (by first | assumption | omega | (have := qg (by assumption); omega) | (unfold qq; omega)) ?_ | fail)
          refine qbtd (af' := ⟨[(0, .ptr 0 0), (1, .fn g [] [.ptr 1 0]), (6, .row 2 (acc.length + 1))], []⟩) (H' := [curE d', .blk [.ptr 0 0], .app 5 (encs (acc ++ [n]))]) ?_ (qbiv [0, 1, 4] rfl (by simp) ?_ ?_ ?_)
          rotate_left
          all_goals (try simp only [← qz, List.nil_append, encs, List.length_nil])
          all_goals (try simp only [go_sem, ↓reduceIte, Nat.reduceEqDiff, Nat.reduceAdd, Nat.reduceSub, Nat.reduceMul, Nat.reduceLT, Nat.reduceLeDiff, reduceCtorEq, Int.reduceToNat])
          all_goals (try (rw [qz, qb8, qc1]; exact ⟨rfl, rfl⟩))
          subst h9
          have hta : (qr d' [59]).1.good := (qbb _ _).1 j1
          have htr := (qbb d' [59]).2.1
          have hne3 : ¬ acc ++ [n] = [] := by simp
          have hlen : (acc ++ [n]).length = acc.length + 1 := by simp
          repeat' (first | refine ql ?_ | refine qk ?_ | ((first | refine qn ?_ | refine qm ?_ | refine qj ?_ | refine qi ?_ | refine qe9 j1.ok ?_ | refine a_Is ?_ | refine qdz hta.ok ?_); simp only [go_sem, ↓reduceIte, Nat.reduceEqDiff, Nat.reduceAdd, Nat.reduceSub, Nat.reduceMul, Nat.reduceLT, Nat.reduceLeDiff, reduceCtorEq, Int.reduceToNat]) | ((first | refine qf ?_ ?_ | refine qd ?_ ?_) <;> intro hc <;> simp only [hc, go_sem, ↓reduceIte, Nat.reduceEqDiff, Nat.reduceAdd, Nat.reduceSub, Nat.reduceMul, Nat.reduceLT, Nat.reduceLeDiff, reduceCtorEq, Int.reduceToNat] <;> (try simp only [qb, qa, decide_eq_true_eq, decide_eq_false_iff_not, Bool.and_eq_true] at hc)) | refine And.intro (by first | assumption | omega | (have := qg (by assumption); omega) | (unfold qq; omega)) ?_ | fail)
          · have ht : (qr d' [59]).2 = false := by assumption
            rw [ht, Bool.false_and, if_neg (by simp)] at i3
            subst i3
            obtain rfl := hk2 (by simp)
            simp only [qb7 (qch hne3), qb9 (qch hne3), qb0, hlen, ← qz]
            simp only [go_sem, ↓reduceIte, Nat.reduceEqDiff, Nat.reduceAdd, Nat.reduceSub, Nat.reduceMul, Nat.reduceLT, Nat.reduceLeDiff, reduceCtorEq, Int.reduceToNat]
            all_goals first | (rw [qz]; exact qb8 _ _) | exact ⟨rfl, rfl⟩ | rfl | (rw [qz, qb8, qc1]; exact ⟨rfl, rfl⟩)
          · have ht : (qr d' [59]).2 = true := by assumption
            have hi : isK (qr d' [59]).1 [125] = true := by assumption
            rw [ht, hi, Bool.true_and, Bool.not_true, if_neg (by simp)] at i3
            subst i3
            obtain rfl := hk2 (by simp)
            simp only [qb7 (qch hne3), qb9 (qch hne3), qb0, hlen, ← qz]
            simp only [go_sem, ↓reduceIte, Nat.reduceEqDiff, Nat.reduceAdd, Nat.reduceSub, Nat.reduceMul, Nat.reduceLT, Nat.reduceLeDiff, reduceCtorEq, Int.reduceToNat]
            all_goals first | (rw [qz]; exact qb8 _ _) | exact ⟨rfl, rfl⟩ | rfl | (rw [qz, qb8, qc1]; exact ⟨rfl, rfl⟩)
          · have ht : (qr d' [59]).2 = true := by assumption
            have hi : isK (qr d' [59]).1 [125] = false := by assumption
            rw [ht, hi, Bool.true_and, Bool.not_false, if_pos rfl] at i3
            have htl := qea ht
            refine qbq (fu, (qr d' [59]).1, acc ++ [n]) [0, 1, 2] ⟨⟨hta, by simp only; omega, i3, by simp only; omega, by simp only [hlen]; omega⟩, by simp only; omega⟩ rfl (by simp) ?_ ?_ ?_
            all_goals simp only [qtp, qb7 (qch hne3), qb9 (qch hne3), qb0, hlen, ← qz]
            all_goals simp only [go_sem, ↓reduceIte, Nat.reduceEqDiff, Nat.reduceAdd, Nat.reduceSub, Nat.reduceMul, Nat.reduceLT, Nat.reduceLeDiff, reduceCtorEq, Int.reduceToNat]
            all_goals first | (rw [qz]; exact qb8 _ _) | exact ⟨rfl, rfl⟩ | rfl | (rw [qz, qb8, qc1]; exact ⟨rfl, rfl⟩)
  · have hpa : qbn rd c = ((qu c [123]).1, [], false) := by rw [qbn, if_neg hw]
    rw [hpa] at hk1 hk2 ⊢
    obtain rfl := hk1 rfl
    repeat' (first | refine ql ?_ | refine qk ?_ | ((first | refine qn ?_ | refine qm ?_ | refine qj ?_ | refine qi ?_); simp (disch := first | omega | (simp only [List.length_set, List.length_append, List.length_cons, List.length_nil]; done) | (simp only [List.length_set, List.length_append, List.length_cons, List.length_nil]; omega)) only [hw, go_sem, ↓reduceIte, Nat.reduceEqDiff, Nat.reduceAdd, Nat.reduceSub, Nat.reduceMul, Nat.reduceLT, Nat.reduceLeDiff, reduceCtorEq, Int.reduceToNat]) | ((first | refine qf ?_ ?_ | refine qd ?_ ?_) <;> intro hc <;> simp only [hc, go_sem, ↓reduceIte, Nat.reduceEqDiff, Nat.reduceAdd, Nat.reduceSub, Nat.reduceMul, Nat.reduceLT, Nat.reduceLeDiff, reduceCtorEq, Int.reduceToNat] <;> (try simp only [qb, qa, decide_eq_true_eq, decide_eq_false_iff_not, Bool.and_eq_true] at hc)) | refine And.intro (by first | assumption | omega | (have := qg (by assumption); omega) | (unfold qq; omega)) ?_ | fail | ((first | refine qdz hg.ok ?_); simp only [go_sem, ↓reduceIte, Nat.reduceEqDiff, Nat.reduceAdd, Nat.reduceSub, Nat.reduceMul, Nat.reduceLT, Nat.reduceLeDiff, reduceCtorEq, Int.reduceToNat]))
    exact ⟨rfl, rfl⟩
set_option maxRecDepth 4000

theorem qlp {rd : K → R3} (hd : ∀ c, Mon c (rd c).1) (hl : ∀ c, (rd c).2.2 = true → rest (rd c).1 < rest c) : ∀ (f : Nat) (c : K) (acc : List N), (qb4 rd f c acc).2.1.length ≤ acc.length + rest c
  | 0, c, acc => by simp [qb4]
  | f + 1, c, acc => by
    rw [qb4]
    split
    · rename_i h
      have h1 := hl c h
      split
      · have h2 := qlp hd hl f (qr (rd c).1 [59]).1 (acc ++ [(rd c).2.1])
        have h3 := (qbb (rd c).1 [59]).2.1
        simp only [List.length_append, List.length_cons, List.length_nil] at h2
        omega
      · simp only [List.length_append, List.length_cons, List.length_nil]; omega
    · simp
theorem qnc {rd : K → R3} (hd : ∀ c, Mon c (rd c).1) (hl : ∀ c, (rd c).2.2 = true → rest (rd c).1 < rest c) (c : K) : (qbn rd c).2.1.length ≤ rest c := by
  unfold qbn
  split
  · have h1 := qlp hd hl (rest (qu c [123]).1 + 1) (qu c [123]).1 []
    have h2 := (qp c [123]).2.1
    simp only [List.length_nil] at h1
    omega
  · simp
theorem qn6 {rd : K → R3} : ∀ (f : Nat) (c : K) (acc : List N), (qb4 rd f c acc).2.2 = true → (qb4 rd f c acc).2.1 ≠ []
  | 0, c, acc => fun h => by cases h
  | f + 1, c, acc => fun h => by
    rw [qb4] at h ⊢
    split at h
    · rename_i h1
      rw [if_pos h1]
      split at h
      · rename_i h2
        rw [if_pos h2]
        exact qn6 f _ _ h
      · rename_i h2
        rw [if_neg h2]
        simp
    · cases h
theorem qw0 {rd : K → R3} {c : K} (h : (qbn rd c).2.2 = true) : (qbn rd c).2.1 ≠ [] := by
  unfold qbn at h ⊢
  split at h
  · rename_i h1
    rw [if_pos h1]
    exact qn6 _ _ _ h
  · cases h
theorem qrp {rd : K → R3} {g : FuncId} {c : K} (h : ql3 rd g c) (h0 : (qbn rd c).2.1 = []) {L : List Ent} {Q : List Ent → VO → Prop} (hq : Q (curE (qbn rd c).1 :: .blk [.ptr 0 0] :: L) (.val (.tup [.nils, .bool (qbn rd c).2.2]))) :
    VApp Tryz.prog (curE c :: .blk [.ptr 0 0] :: L) (.fn 88 [] []) [.ptr 0 0, .fn g [] [.ptr 1 0]] Q :=
  qha (first := []) (caps := []) (by
    simp only [List.nil_append, List.append_nil]
    refine qi5 (H0 := [curE c, .blk [.ptr 0 0]]) (L := L) h (qmf c) rfl ?_
    rintro H1 o ⟨rfl, rfl⟩
    rw [h0]
    exact ⟨rfl, qmf _, rfl, hq⟩)
theorem qr6 {rd : K → R3} {g : FuncId} {c : K} (h : ql3 rd g c) (h0 : (qbn rd c).2.1 ≠ []) {L : List Ent} {Q : List Ent → VO → Prop}
    (hq : Q (curE (qbn rd c).1 :: .blk [.ptr 0 0] :: (L ++ [.app 5 (encs (qbn rd c).2.1)])) (.val (.tup [.row (L.length + 2) (qbn rd c).2.1.length, .bool (qbn rd c).2.2]))) :
    VApp Tryz.prog (curE c :: .blk [.ptr 0 0] :: L) (.fn 88 [] []) [.ptr 0 0, .fn g [] [.ptr 1 0]] Q :=
  qha (first := []) (caps := []) (by
    simp only [List.nil_append, List.append_nil]
    have hne := qch h0
    have hs : AV.rens (sg [0, 1]) [.ptr 0 0, .fn g [] [.ptr 1 0]] = [.ptr 0 0, .fn g [] [.ptr 1 0]] := rfl
    rw [← hs]
    have ha : AV.bds 2 [.ptr 0 0, .fn g [] [.ptr 1 0]] = true := rfl
    have napp_ren : ∀ σ : Nat → Nat, (Ent.app 5 (encs (qbn rd c).2.1)).ren σ = .app 5 (encs (qbn rd c).2.1) := fun σ => Ent.ren_same (m := 0) (fun i hi => by omega) _ (by simp [Ent.bd, qb8])
    have hp : ∀ σ : Nat → Nat, σ 0 = 0 → (Ent.blk [.ptr 0 0]).ren σ = .blk [.ptr 0 0] := fun σ h => by simp [Ent.ren, AV.rens, AV.ren, h]
    refine qgf (H0 := [curE c, .blk [.ptr 0 0]]) [0, 1] h (by simp) (by simp) rfl ?_ ha ?_
    · intro j e2 hj
      have hj2 : j < 2 := by have := (List.getElem?_eq_some_iff.1 hj).1; simpa using this
      have : j = 0 ∨ j = 1 := by omega
      rcases this with rfl | rfl
      · simp only [List.getElem?_cons_zero, Option.some.injEq] at hj
        subst hj
        exact .inr ⟨qbh _ _, by rw [qme]; rfl⟩
      · simp only [List.getElem?_cons_succ, List.getElem?_cons_zero, Option.some.injEq] at hj
        subst hj
        exact .inr ⟨rfl, rfl⟩
    rintro H1 o ⟨rfl, rfl⟩
    have hq2 : (Ent.blk [.ptr 0 0]).ren (sg' [0, 1] (L.length + 1 + 1)) = .blk [.ptr 0 0] := hp _ rfl
    simp only [qb7 hne, qb9 hne, qb0, List.length_cons, List.length_nil, List.take_succ_cons, List.take_zero, List.map_nil, qcm, List.drop_zero, List.drop_succ_cons, List.map_cons, qme, napp_ren, hq2, VO.ren, AV.ren, AV.rens, List.set_cons_zero, List.set_cons_succ]
    exact hq)
def posZ (p : Int) : AV := .agg [.int .i64 0, .int .i64 p, .int .i64 0, .str [], .nils]
theorem qkw (p : Int) : AV.agg [.int .i64 0, .int .i64 p, .int .i64 0, .str [], .sl 5 []] = enc (posN p) := by simp only [posN, enc, encs]
theorem qn3 (p e : N) : AV.agg [.int .i64 15, .int .i64 p.pos, .int .i64 0, .str [], .sl 5 [enc p, enc e]] = enc (altN p e) := by simp only [altN, enc, encs]
section
variable {rec : K → K × Option N} {b : Nat} (ih : ∀ c, c.good → rest c < b → qco Tryz.prog 10 (curE c) (curE (rec c).1) [.ptr 0 0] (resP (rec c).2))
include ih
theorem q66 (c : K) (hg : c.good) (hr : rest c ≤ b) : VClo 89 c (ofO (qcj rec c)).1 (ofO (qcj rec c)).2 := by
  refine qbd c0u 2 (by simp) (by simp) ?_
  repeat' (first | refine ql ?_ | ((first | refine qn ?_ | refine qm ?_ | refine qdh (qo3 ih c hg hr) rfl ?_); simp only [go_sem, ↓reduceIte, Nat.reduceEqDiff, Nat.reduceAdd, Nat.reduceSub, Nat.reduceMul, Nat.reduceLT, Nat.reduceLeDiff, reduceCtorEq, Int.reduceToNat]) | ((first | refine qf ?_ ?_ | refine qd ?_ ?_) <;> intro hc <;> simp only [hc, go_sem, ↓reduceIte, Nat.reduceEqDiff, Nat.reduceAdd, Nat.reduceSub, Nat.reduceMul, Nat.reduceLT, Nat.reduceLeDiff, reduceCtorEq, Int.reduceToNat] <;> (try simp only [qb, qa, decide_eq_true_eq, decide_eq_false_iff_not, Bool.and_eq_true] at hc)) | refine And.intro (by first | assumption | omega | (have := qg (by assumption); omega) | (unfold qq; omega)) ?_ | fail)
  exact ⟨rfl, rfl⟩
theorem qxo (c : K) (hg : c.good) (hr : rest c ≤ b) : VClo 90 c (qfi rec c).1 (qfi rec c).2 := by
  have hp := qbqz (rest c + 2) c hg (by omega)
  have g1 : (qcv (rest c + 2) c).1.good := (qfh _ c).1 hg
  have hr1 : rest (qcv (rest c + 2) c).1 ≤ b := by have := (qfh (rest c + 2) c).2.1; omega
  refine qbd c0v 2 (by simp) (by simp) ?_
  unfold qfi
  generalize qcv (rest c + 2) c = r at *
  obtain ⟨d, o⟩ := r
  simp only at hp g1 hr1 ⊢
  have g2 : (qu d [45, 62]).1.good := (qp _ _).1 g1
  have hlt : (qu d [45, 62]).2 = true → rest (qu d [45, 62]).1 < b := fun h => by have := qgk h; omega
  unfold altB altC
  cases o with
  | none =>
    repeat' (first | refine ql ?_ | ((first | refine qn ?_ | refine qm ?_ | refine qj ?_ | refine qi ?_); simp (disch := first | omega | (simp only [List.length_set, List.length_append, List.length_cons, List.length_nil]; done) | (simp only [List.length_set, List.length_append, List.length_cons, List.length_nil]; omega)) only [Option.isSome_none, Option.getD_none, go_sem, ↓reduceIte, Nat.reduceEqDiff, Nat.reduceAdd, Nat.reduceSub, Nat.reduceMul, Nat.reduceLT, Nat.reduceLeDiff, reduceCtorEq, Int.reduceToNat]) | ((first | refine qf ?_ ?_ | refine qd ?_ ?_) <;> intro hc <;> simp only [hc, go_sem, ↓reduceIte, Nat.reduceEqDiff, Nat.reduceAdd, Nat.reduceSub, Nat.reduceMul, Nat.reduceLT, Nat.reduceLeDiff, reduceCtorEq, Int.reduceToNat] <;> (try simp only [qb, qa, decide_eq_true_eq, decide_eq_false_iff_not, Bool.and_eq_true] at hc)) | refine And.intro (by first | assumption | omega | (have := qg (by assumption); omega) | (unfold qq; omega)) ?_ | fail | ((first | refine qdh hp rfl ?_); simp only [go_sem, ↓reduceIte, Nat.reduceEqDiff, Nat.reduceAdd, Nat.reduceSub, Nat.reduceMul, Nat.reduceLT, Nat.reduceLeDiff, reduceCtorEq, Int.reduceToNat]))
    all_goals (try rfl)
  | some p =>
    by_cases hw : (qu d [45, 62]).2 = true
    · have hr := ih _ g2 (hlt hw)
      repeat' (first | refine ql ?_ | ((first | refine qn ?_ | refine qm ?_ | refine qj ?_ | refine qi ?_); simp (disch := first | omega | (simp only [List.length_set, List.length_append, List.length_cons, List.length_nil]; done) | (simp only [List.length_set, List.length_append, List.length_cons, List.length_nil]; omega)) only [hw, Option.isSome_some, Option.getD_some, go_sem, ↓reduceIte, Nat.reduceEqDiff, Nat.reduceAdd, Nat.reduceSub, Nat.reduceMul, Nat.reduceLT, Nat.reduceLeDiff, reduceCtorEq, Int.reduceToNat]) | ((first | refine qf ?_ ?_ | refine qd ?_ ?_) <;> intro hc <;> simp only [hc, go_sem, ↓reduceIte, Nat.reduceEqDiff, Nat.reduceAdd, Nat.reduceSub, Nat.reduceMul, Nat.reduceLT, Nat.reduceLeDiff, reduceCtorEq, Int.reduceToNat] <;> (try simp only [qb, qa, decide_eq_true_eq, decide_eq_false_iff_not, Bool.and_eq_true] at hc)) | refine And.intro (by first | assumption | omega | (have := qg (by assumption); omega) | (unfold qq; omega)) ?_ | fail | ((first | refine qdh hp rfl ?_ | refine qdz g1.ok ?_ | refine qdh hr rfl ?_); simp only [go_sem, ↓reduceIte, Nat.reduceEqDiff, Nat.reduceAdd, Nat.reduceSub, Nat.reduceMul, Nat.reduceLT, Nat.reduceLeDiff, reduceCtorEq, Int.reduceToNat]))
      all_goals first | (rw [qn3]; done) | (rw [qn3]; rfl) | (rw [qn3]; exact ⟨rfl, rfl⟩)
    · repeat' (first | refine ql ?_ | ((first | refine qn ?_ | refine qm ?_ | refine qj ?_ | refine qi ?_); simp (disch := first | omega | (simp only [List.length_set, List.length_append, List.length_cons, List.length_nil]; done) | (simp only [List.length_set, List.length_append, List.length_cons, List.length_nil]; omega)) only [hw, Option.isSome_some, Option.getD_some, go_sem, ↓reduceIte, Nat.reduceEqDiff, Nat.reduceAdd, Nat.reduceSub, Nat.reduceMul, Nat.reduceLT, Nat.reduceLeDiff, reduceCtorEq, Int.reduceToNat]) | ((first | refine qf ?_ ?_ | refine qd ?_ ?_) <;> intro hc <;> simp only [hc, go_sem, ↓reduceIte, Nat.reduceEqDiff, Nat.reduceAdd, Nat.reduceSub, Nat.reduceMul, Nat.reduceLT, Nat.reduceLeDiff, reduceCtorEq, Int.reduceToNat] <;> (try simp only [qb, qa, decide_eq_true_eq, decide_eq_false_iff_not, Bool.and_eq_true] at hc)) | refine And.intro (by first | assumption | omega | (have := qg (by assumption); omega) | (unfold qq; omega)) ?_ | fail | ((first | refine qdh hp rfl ?_ | refine qdz g1.ok ?_); simp only [go_sem, ↓reduceIte, Nat.reduceEqDiff, Nat.reduceAdd, Nat.reduceSub, Nat.reduceMul, Nat.reduceLT, Nat.reduceLeDiff, reduceCtorEq, Int.reduceToNat]))
      all_goals (try rfl)
end
set_option maxRecDepth 4000

theorem qbim (p : Int) (l : List N) (k : N) : AV.agg [.int .i64 26, .int .i64 p, .int .i64 0, .str [], .sl 5 (encs l ++ [enc k])] = enc (.mk 26 p 0 [] (l ++ [k])) := by simp only [enc, qz]
section
variable {rec : K → K × Option N} {b : Nat} (hm : ∀ c, Mon c (rec c).1) (ih : ∀ c, c.good → rest c < b → qco Tryz.prog 10 (curE c) (curE (rec c).1) [.ptr 0 0] (resP (rec c).2))
include hm ih
theorem qbek (p : Int) (c : K) (hg : c.good) (hr : rest c ≤ b) : qco Tryz.prog 55 (curE c) (curE (qh2 rec p c).1) [.ptr 0 0, posZ p] (resB (qh2 rec p c).2) := by
  have hd : ∀ c, Mon c (ofO (qcj rec c)).1 := fun c => qgm hm c
  have hl : ∀ c, (ofO (qcj rec c)).2.2 = true → rest (ofO (qcj rec c)).1 < rest c := fun c h => qlf hm h
  have hS := qwe (g := 89) hd hl (fun c g r => q66 ih c g r) c hg hr
  have hlen := qnc hd hl c
  have hne := @qw0 (fun c => ofO (qcj rec c)) c
  have g1 : (qbn (fun c => ofO (qcj rec c)) c).1.good := (qgp hd c).1 hg
  have hr1 : rest (qbn (fun c => ofO (qcj rec c)) c).1 ≤ b := by have := (qgp hd c).2.1; omega
  have happ0 := @qrp _ _ _ hS
  have happ1 := @qr6 _ _ _ hS
  have hgr := hg.rest
  clear hS hd hl
  refine qbd c0q 1 (by simp) (by simp [posZ]) ?_
  unfold qh2 posZ
  generalize qbn (fun c => ofO (qcj rec c)) c = L at *
  obtain ⟨d, l, ok⟩ := L
  simp only at hlen hne g1 hr1 happ0 happ1
  have g2 : (qu d [105, 110]).1.good := (qp _ _).1 g1
  have hlt : (qu d [105, 110]).2 = true → rest (qu d [105, 110]).1 < b := fun h => by have := qgk h; omega
  have hcap : qq (l.length + 1) 64 := capN (by unfold rest at hlen; omega)
  unfold letB letC
  by_cases h0 : l = []
  · subst h0
    have ok0 : ok = false := by cases ok with | false => rfl | true => exact absurd rfl (hne rfl)
    subst ok0
    repeat' (first | refine ql ?_ | ((first | refine qn ?_ | refine qm ?_ | refine qj ?_ | refine qi ?_ | refine happ0 rfl ?_); simp only [go_sem, ↓reduceIte, Nat.reduceEqDiff, Nat.reduceAdd, Nat.reduceSub, Nat.reduceMul, Nat.reduceLT, Nat.reduceLeDiff, reduceCtorEq, Int.reduceToNat]) | ((first | refine qf ?_ ?_ | refine qd ?_ ?_) <;> intro hc <;> simp only [hc, go_sem, ↓reduceIte, Nat.reduceEqDiff, Nat.reduceAdd, Nat.reduceSub, Nat.reduceMul, Nat.reduceLT, Nat.reduceLeDiff, reduceCtorEq, Int.reduceToNat] <;> (try simp only [qb, qa, decide_eq_true_eq, decide_eq_false_iff_not, Bool.and_eq_true] at hc)) | refine And.intro (by first | assumption | omega | (have := qg (by assumption); omega) | (unfold qq; omega)) ?_ | fail)
    all_goals (try rw [qkw])
    all_goals (try exact ⟨rfl, rfl⟩)
  · cases ok with
    | false =>
      repeat' (first | refine ql ?_ | ((first | refine qn ?_ | refine qm ?_ | refine qj ?_ | refine qi ?_ | refine happ1 h0 ?_); simp only [go_sem, ↓reduceIte, Nat.reduceEqDiff, Nat.reduceAdd, Nat.reduceSub, Nat.reduceMul, Nat.reduceLT, Nat.reduceLeDiff, reduceCtorEq, Int.reduceToNat]) | ((first | refine qf ?_ ?_ | refine qd ?_ ?_) <;> intro hc <;> simp only [hc, go_sem, ↓reduceIte, Nat.reduceEqDiff, Nat.reduceAdd, Nat.reduceSub, Nat.reduceMul, Nat.reduceLT, Nat.reduceLeDiff, reduceCtorEq, Int.reduceToNat] <;> (try simp only [qb, qa, decide_eq_true_eq, decide_eq_false_iff_not, Bool.and_eq_true] at hc)) | refine And.intro (by first | assumption | omega | (have := qg (by assumption); omega) | (unfold qq; omega)) ?_ | fail)
      all_goals (try rw [qkw])
      all_goals (try exact ⟨rfl, rfl⟩)
    | true =>
      by_cases hw : (qu d [105, 110]).2 = true
      · have hr := ih _ g2 (hlt hw)
        repeat' (first | refine ql ?_ | ((first | refine qn ?_ | refine qm ?_ | refine qj ?_ | refine qi ?_); simp (disch := first | omega | (simp only [List.length_set, List.length_append, List.length_cons, List.length_nil]; done) | (simp only [List.length_set, List.length_append, List.length_cons, List.length_nil]; omega)) only [hw, go_sem, ↓reduceIte, Nat.reduceEqDiff, Nat.reduceAdd, Nat.reduceSub, Nat.reduceMul, Nat.reduceLT, Nat.reduceLeDiff, reduceCtorEq, Int.reduceToNat]) | ((first | refine qf ?_ ?_ | refine qd ?_ ?_) <;> intro hc <;> simp only [hc, go_sem, ↓reduceIte, Nat.reduceEqDiff, Nat.reduceAdd, Nat.reduceSub, Nat.reduceMul, Nat.reduceLT, Nat.reduceLeDiff, reduceCtorEq, Int.reduceToNat] <;> (try simp only [qb, qa, decide_eq_true_eq, decide_eq_false_iff_not, Bool.and_eq_true] at hc)) | refine And.intro (by first | assumption | omega | (have := qg (by assumption); omega) | (unfold qq; omega)) ?_ | fail | ((first | refine happ1 h0 ?_ | refine qdz g1.ok ?_ | refine qdh hr rfl ?_); simp only [go_sem, ↓reduceIte, Nat.reduceEqDiff, Nat.reduceAdd, Nat.reduceSub, Nat.reduceMul, Nat.reduceLT, Nat.reduceLeDiff, reduceCtorEq, Int.reduceToNat]))
        all_goals (try rw [qbim])
        all_goals exact ⟨by rw [qz, qb8], rfl⟩
      · repeat' (first | refine ql ?_ | ((first | refine qn ?_ | refine qm ?_ | refine qj ?_ | refine qi ?_); simp (disch := first | omega | (simp only [List.length_set, List.length_append, List.length_cons, List.length_nil]; done) | (simp only [List.length_set, List.length_append, List.length_cons, List.length_nil]; omega)) only [hw, go_sem, ↓reduceIte, Nat.reduceEqDiff, Nat.reduceAdd, Nat.reduceSub, Nat.reduceMul, Nat.reduceLT, Nat.reduceLeDiff, reduceCtorEq, Int.reduceToNat]) | ((first | refine qf ?_ ?_ | refine qd ?_ ?_) <;> intro hc <;> simp only [hc, go_sem, ↓reduceIte, Nat.reduceEqDiff, Nat.reduceAdd, Nat.reduceSub, Nat.reduceMul, Nat.reduceLT, Nat.reduceLeDiff, reduceCtorEq, Int.reduceToNat] <;> (try simp only [qb, qa, decide_eq_true_eq, decide_eq_false_iff_not, Bool.and_eq_true] at hc)) | refine And.intro (by first | assumption | omega | (have := qg (by assumption); omega) | (unfold qq; omega)) ?_ | fail | ((first | refine happ1 h0 ?_ | refine qdz g1.ok ?_); simp only [go_sem, ↓reduceIte, Nat.reduceEqDiff, Nat.reduceAdd, Nat.reduceSub, Nat.reduceMul, Nat.reduceLT, Nat.reduceLeDiff, reduceCtorEq, Int.reduceToNat]))
        all_goals (try rw [qkw])
        all_goals (try exact ⟨rfl, rfl⟩)
theorem q10 (p : Int) (c : K) (hg : c.good) (hr : rest c < b) : qco Tryz.prog 56 (curE c) (curE (qf2 rec p c).1) [.ptr 0 0, posZ p] (resB (qf2 rec p c).2) := by
  have hd : ∀ c, Mon c (qfi rec c).1 := fun c => qkx hm c
  have hl : ∀ c, (qfi rec c).2.2 = true → rest (qfi rec c).1 < rest c := fun c h => qn4 hm h
  have hx := ih c hg hr
  have g1 : (rec c).1.good := (hm c).1 hg
  have hr1 := (hm c).2.1
  refine qbd c0r 1 (by simp) (by simp [posZ]) ?_
  unfold qf2 posZ
  generalize rec c = r0 at *
  obtain ⟨d0, o⟩ := r0
  simp only at g1 hr1 hx ⊢
  have g2 : (qu d0 [111, 102]).1.good := (qp _ _).1 g1
  have hr2 : rest (qu d0 [111, 102]).1 ≤ b := by have := (qp d0 [111, 102]).2.1; omega
  have hS := qwe (g := 90) hd hl (fun c g r => qxo ih c g r) (qu d0 [111, 102]).1 g2 hr2
  have hlen := qnc hd hl (qu d0 [111, 102]).1
  have happ0 := @qrp _ _ _ hS
  have happ1 := @qr6 _ _ _ hS
  have hgr := g2.rest
  clear hS hd hl
  unfold qyh qym
  cases o with
  | none =>
    repeat' (first | refine ql ?_ | ((first | refine qn ?_ | refine qm ?_ | refine qj ?_ | refine qi ?_); simp (disch := first | omega | (simp only [List.length_set, List.length_append, List.length_cons, List.length_nil]; done) | (simp only [List.length_set, List.length_append, List.length_cons, List.length_nil]; omega)) only [Option.isSome_none, Option.getD_none, go_sem, ↓reduceIte, Nat.reduceEqDiff, Nat.reduceAdd, Nat.reduceSub, Nat.reduceMul, Nat.reduceLT, Nat.reduceLeDiff, reduceCtorEq, Int.reduceToNat]) | ((first | refine qf ?_ ?_ | refine qd ?_ ?_) <;> intro hc <;> simp only [hc, go_sem, ↓reduceIte, Nat.reduceEqDiff, Nat.reduceAdd, Nat.reduceSub, Nat.reduceMul, Nat.reduceLT, Nat.reduceLeDiff, reduceCtorEq, Int.reduceToNat] <;> (try simp only [qb, qa, decide_eq_true_eq, decide_eq_false_iff_not, Bool.and_eq_true] at hc)) | refine And.intro (by first | assumption | omega | (have := qg (by assumption); omega) | (unfold qq; omega)) ?_ | fail | ((first | refine qdh hx rfl ?_); simp only [go_sem, ↓reduceIte, Nat.reduceEqDiff, Nat.reduceAdd, Nat.reduceSub, Nat.reduceMul, Nat.reduceLT, Nat.reduceLeDiff, reduceCtorEq, Int.reduceToNat]))
    all_goals (try rw [qkw])
    all_goals (try exact ⟨rfl, rfl⟩)
  | some x =>
    by_cases hw : (qu d0 [111, 102]).2 = true
    · generalize qbn (qfi rec) (qu d0 [111, 102]).1 = L at *
      obtain ⟨d, l, ok⟩ := L
      simp only at hlen happ0 happ1 ⊢
      have hcap : qq (1 + l.length) 64 := capN (by unfold rest at hlen; omega)
      by_cases h0 : l = []
      · subst h0
        repeat' (first | refine ql ?_ | ((first | refine qn ?_ | refine qm ?_ | refine qj ?_ | refine qi ?_); simp (disch := first | omega | (simp only [List.length_set, List.length_append, List.length_cons, List.length_nil]; done) | (simp only [List.length_set, List.length_append, List.length_cons, List.length_nil]; omega)) only [hw, Option.isSome_some, Option.getD_some, go_sem, ↓reduceIte, Nat.reduceEqDiff, Nat.reduceAdd, Nat.reduceSub, Nat.reduceMul, Nat.reduceLT, Nat.reduceLeDiff, reduceCtorEq, Int.reduceToNat]) | ((first | refine qf ?_ ?_ | refine qd ?_ ?_) <;> intro hc <;> simp only [hc, go_sem, ↓reduceIte, Nat.reduceEqDiff, Nat.reduceAdd, Nat.reduceSub, Nat.reduceMul, Nat.reduceLT, Nat.reduceLeDiff, reduceCtorEq, Int.reduceToNat] <;> (try simp only [qb, qa, decide_eq_true_eq, decide_eq_false_iff_not, Bool.and_eq_true] at hc)) | refine And.intro (by first | assumption | omega | (have := qg (by assumption); omega) | (unfold qq; omega)) ?_ | fail | ((first | refine qdh hx rfl ?_ | refine qdz g1.ok ?_ | refine happ0 rfl ?_); simp only [go_sem, ↓reduceIte, Nat.reduceEqDiff, Nat.reduceAdd, Nat.reduceSub, Nat.reduceMul, Nat.reduceLT, Nat.reduceLeDiff, reduceCtorEq, Int.reduceToNat]))
        all_goals (try simp only [enc, encs])
      · have hnl : ¬ l.length = 0 := fun h => h0 (List.length_eq_zero_iff.1 h)
        repeat' (first | refine ql ?_ | ((first | refine qn ?_ | refine qm ?_ | refine qj ?_ | refine qi ?_); simp (disch := first | omega | (simp only [List.length_set, List.length_append, List.length_cons, List.length_nil]; done) | (simp only [List.length_set, List.length_append, List.length_cons, List.length_nil]; omega)) only [hw, hnl, hcap, Option.isSome_some, Option.getD_some, go_sem, ↓reduceIte, Nat.reduceEqDiff, Nat.reduceAdd, Nat.reduceSub, Nat.reduceMul, Nat.reduceLT, Nat.reduceLeDiff, reduceCtorEq, Int.reduceToNat]) | ((first | refine qf ?_ ?_ | refine qd ?_ ?_) <;> intro hc <;> simp only [hc, go_sem, ↓reduceIte, Nat.reduceEqDiff, Nat.reduceAdd, Nat.reduceSub, Nat.reduceMul, Nat.reduceLT, Nat.reduceLeDiff, reduceCtorEq, Int.reduceToNat] <;> (try simp only [qb, qa, decide_eq_true_eq, decide_eq_false_iff_not, Bool.and_eq_true] at hc)) | refine And.intro (by first | assumption | omega | (have := qg (by assumption); omega) | (unfold qq; omega)) ?_ | fail | ((first | refine qdh hx rfl ?_ | refine qdz g1.ok ?_ | refine happ1 h0 ?_); simp only [go_sem, ↓reduceIte, Nat.reduceEqDiff, Nat.reduceAdd, Nat.reduceSub, Nat.reduceMul, Nat.reduceLT, Nat.reduceLeDiff, reduceCtorEq, Int.reduceToNat]))
        have hcm : l.length + 1 = 1 + l.length := Nat.add_comm _ _
        simp only [hcm, if_true, enc, encs, AV.bd, AV.bds, qms, qb8, Bool.and_true, and_self]
    · repeat' (first | refine ql ?_ | ((first | refine qn ?_ | refine qm ?_ | refine qj ?_ | refine qi ?_); simp (disch := first | omega | (simp only [List.length_set, List.length_append, List.length_cons, List.length_nil]; done) | (simp only [List.length_set, List.length_append, List.length_cons, List.length_nil]; omega)) only [hw, Option.isSome_some, Option.getD_some, go_sem, ↓reduceIte, Nat.reduceEqDiff, Nat.reduceAdd, Nat.reduceSub, Nat.reduceMul, Nat.reduceLT, Nat.reduceLeDiff, reduceCtorEq, Int.reduceToNat]) | ((first | refine qf ?_ ?_ | refine qd ?_ ?_) <;> intro hc <;> simp only [hc, go_sem, ↓reduceIte, Nat.reduceEqDiff, Nat.reduceAdd, Nat.reduceSub, Nat.reduceMul, Nat.reduceLT, Nat.reduceLeDiff, reduceCtorEq, Int.reduceToNat] <;> (try simp only [qb, qa, decide_eq_true_eq, decide_eq_false_iff_not, Bool.and_eq_true] at hc)) | refine And.intro (by first | assumption | omega | (have := qg (by assumption); omega) | (unfold qq; omega)) ?_ | fail | ((first | refine qdh hx rfl ?_ | refine qdz g1.ok ?_); simp only [go_sem, ↓reduceIte, Nat.reduceEqDiff, Nat.reduceAdd, Nat.reduceSub, Nat.reduceMul, Nat.reduceLT, Nat.reduceLeDiff, reduceCtorEq, Int.reduceToNat]))
      all_goals (try rw [qkw])
      all_goals (try exact ⟨rfl, rfl⟩)
def q2c (p : Int) (x : Nat × K × List N) : AF × List Ent :=
  (⟨[(0, .ptr 0 0), (3, .ptr 1 0), (4, .ptr 2 0), (11, .agg (ifsW.map AV.str)), (12, .int .i64 x.1)], []⟩,
    curE x.2.1 :: .blk [.int .i64 28, .int .i64 p, .int .i64 0, .str [], accV 3 (encs x.2.2)] :: .blk [.int .i64 0, .int .i64 0, .int .i64 0, .str [], .nils] :: accE 5 (encs x.2.2))
theorem qbk0 (p : Int) (c : K) (hg : c.good) (hr : rest c < b) : qco Tryz.prog 57 (curE c) (curE (qeh rec p ifsW c []).1) [.ptr 0 0, posZ p] (resB (qeh rec p ifsW c []).2) := by
  refine qbd c0s 1 (by simp) (by simp [posZ]) ?_
  unfold posZ
  generalize htg : qeh rec p ifsW c [] = tg
  have hW : AV.agg (ifsW.map AV.str) = .agg [.str [], .str [116, 104, 101, 110], .str [101, 108, 115, 101]] := rfl
  repeat' (first | refine ql ?_ | refine qk ?_ | ((first | refine qn ?_ | refine qm ?_ | refine qs ?_ | refine qj ?_ | refine qi ?_); simp only [go_sem, ↓reduceIte, Nat.reduceEqDiff, Nat.reduceAdd, Nat.reduceSub, Nat.reduceMul, Nat.reduceLT, Nat.reduceLeDiff, reduceCtorEq, Int.reduceToNat]) | ((first | refine qf ?_ ?_ | refine qd ?_ ?_) <;> intro hc <;> simp only [hc, go_sem, ↓reduceIte, Nat.reduceEqDiff, Nat.reduceAdd, Nat.reduceSub, Nat.reduceMul, Nat.reduceLT, Nat.reduceLeDiff, reduceCtorEq, Int.reduceToNat] <;> (try simp only [qb, qa, decide_eq_true_eq, decide_eq_false_iff_not, Bool.and_eq_true] at hc)) | refine And.intro (by first | assumption | omega | (have := qg (by assumption); omega) | (unfold qq; omega)) ?_ | ((first | simp (disch := omega) only [qv] | simp (disch := omega) only [qbe]); (try simp only [go_sem, ↓reduceIte, Nat.reduceEqDiff, Nat.reduceAdd, Nat.reduceSub, Nat.reduceMul, Nat.reduceLT, Nat.reduceLeDiff, reduceCtorEq, Int.reduceToNat])))
  refine qca (S := Nat × K × List N) (fun x => x.1 ≤ 3 ∧ x.2.1.good ∧ rest x.2.1 < b ∧ qeh rec p (ifsW.drop x.1) x.2.1 x.2.2 = tg ∧ x.2.2.length = x.1)
    (q2c p) (fun x => 3 - x.1) ?_ ?_
  · refine qbq (0, c, []) [0, 1, 2] ⟨by simp, hg, hr, htg, rfl⟩ rfl (by simp) ?_ ?_ ?_
    all_goals simp only [q2c, hW, encs, qbs, qbu]
    all_goals simp only [go_sem, ↓reduceIte, Nat.reduceEqDiff, Nat.reduceAdd, Nat.reduceSub, Nat.reduceMul, Nat.reduceLT, Nat.reduceLeDiff, reduceCtorEq, Int.reduceToNat]
  · rintro ⟨i, d, acc⟩ ⟨i1, i2, i3, i4, i5⟩
    simp only at i1 i2 i3 i4 i5
    unfold q2c
    by_cases hlt : i < 3
    · have hil : (i : Int) < 3 := by omega
      have hd := qnh (ls := ifsW) (i := i) (by simpa [ifsW] using hlt)
      rw [hd, qeh] at i4
      have hw0 : ifsW.getD i [] = [] ↔ i = 0 := by
        have : i = 0 ∨ i = 1 ∨ i = 2 := by omega
        rcases this with rfl | rfl | rfl <;> simp [ifsW]
      have hln : (ifsW.map AV.str).length = 3 := rfl
      have hln2 : i < ifsW.length := hlt
      have hget : (ifsW.map AV.str).getD i .junk = .str (ifsW.getD i []) := qr3 hln2
      clear hd
      generalize ifsW.getD i [] = w at *
      have hab : ∀ k, AV.bds k (ifsW.map AV.str) = true := fun k => qpw k _
      have har : ∀ σ : Nat → Nat, AV.rens σ (ifsW.map AV.str) = ifsW.map AV.str := fun σ => qwt σ _
      generalize hW2 : ifsW.map AV.str = aw at *
      by_cases h0 : i = 0
      · subst h0
        have hw : w = [] := hw0.2 rfl
        have ha : acc = [] := List.length_eq_zero_iff.1 i5
        subst hw ha
        have hx := ih d i2 i3
        have g1 : (rec d).1.good := (hm d).1 i2
        have hr1 := (hm d).2.1
        rw [ifsK, if_pos rfl] at i4
        simp only [if_true] at i4
        generalize rec d = r at *
        obtain ⟨d', o⟩ := r
        simp only at g1 hr1 hx i4
        have hcap : qq 1 64 := capN (by omega)
        simp only [encs, qbs, qbu]
        cases o with
        | none =>
          rw [if_neg (by simp)] at i4
          subst i4
          repeat' (first | refine ql ?_ | refine qk ?_ | ((first | refine qn ?_ | refine qm ?_ | refine qs ?_ | refine qj ?_ | refine qi ?_); simp (disch := first | omega | (simp only [List.length_set, List.length_append, List.length_cons, List.length_nil]; done) | (simp only [List.length_set, List.length_append, List.length_cons, List.length_nil]; omega)) only [hil, hget, hln, ne_eq, not_true_eq_false, not_false_eq_true, decide_true, decide_false, Option.isSome_none, Option.isSome_some, Option.getD_none, Option.getD_some, go_sem, ↓reduceIte, Nat.reduceEqDiff, Nat.reduceAdd, Nat.reduceSub, Nat.reduceMul, Nat.reduceLT, Nat.reduceLeDiff, reduceCtorEq, Int.reduceToNat]) | ((first | refine qf ?_ ?_ | refine qd ?_ ?_) <;> intro hc <;> simp only [hc, go_sem, ↓reduceIte, Nat.reduceEqDiff, Nat.reduceAdd, Nat.reduceSub, Nat.reduceMul, Nat.reduceLT, Nat.reduceLeDiff, reduceCtorEq, Int.reduceToNat] <;> (try simp only [qb, qa, decide_eq_true_eq, decide_eq_false_iff_not, Bool.and_eq_true] at hc)) | refine And.intro (by first | assumption | omega | (have := qg (by assumption); omega) | (unfold qq; omega)) ?_ | ((first | simp (disch := omega) only [qv] | simp (disch := omega) only [qbe]); (try simp only [go_sem, ↓reduceIte, Nat.reduceEqDiff, Nat.reduceAdd, Nat.reduceSub, Nat.reduceMul, Nat.reduceLT, Nat.reduceLeDiff, reduceCtorEq, Int.reduceToNat])) | ((first | refine qdh hx rfl ?_); simp only [go_sem, ↓reduceIte, Nat.reduceEqDiff, Nat.reduceAdd, Nat.reduceSub, Nat.reduceMul, Nat.reduceLT, Nat.reduceLeDiff, reduceCtorEq, Int.reduceToNat]))
          all_goals first | (simp only [enc, encs]; done) | (exfalso; omega)
        | some n =>
          rw [if_pos (by rfl)] at i4
          repeat' (first | refine ql ?_ | refine qk ?_ | ((first | refine qn ?_ | refine qm ?_ | refine qs ?_ | refine qj ?_ | refine qi ?_); simp (disch := first | omega | (simp only [List.length_set, List.length_append, List.length_cons, List.length_nil]; done) | (simp only [List.length_set, List.length_append, List.length_cons, List.length_nil]; omega)) only [hil, hget, hln, ne_eq, not_true_eq_false, not_false_eq_true, decide_true, decide_false, Option.isSome_none, Option.isSome_some, Option.getD_none, Option.getD_some, go_sem, ↓reduceIte, Nat.reduceEqDiff, Nat.reduceAdd, Nat.reduceSub, Nat.reduceMul, Nat.reduceLT, Nat.reduceLeDiff, reduceCtorEq, Int.reduceToNat]) | ((first | refine qf ?_ ?_ | refine qd ?_ ?_) <;> intro hc <;> simp only [hc, go_sem, ↓reduceIte, Nat.reduceEqDiff, Nat.reduceAdd, Nat.reduceSub, Nat.reduceMul, Nat.reduceLT, Nat.reduceLeDiff, reduceCtorEq, Int.reduceToNat] <;> (try simp only [qb, qa, decide_eq_true_eq, decide_eq_false_iff_not, Bool.and_eq_true] at hc)) | refine And.intro (by first | assumption | omega | (have := qg (by assumption); omega) | (unfold qq; omega)) ?_ | ((first | simp (disch := omega) only [qv] | simp (disch := omega) only [qbe]); (try simp only [go_sem, ↓reduceIte, Nat.reduceEqDiff, Nat.reduceAdd, Nat.reduceSub, Nat.reduceMul, Nat.reduceLT, Nat.reduceLeDiff, reduceCtorEq, Int.reduceToNat])) | ((first | refine qdh hx rfl ?_); simp only [go_sem, ↓reduceIte, Nat.reduceEqDiff, Nat.reduceAdd, Nat.reduceSub, Nat.reduceMul, Nat.reduceLT, Nat.reduceLeDiff, reduceCtorEq, Int.reduceToNat]))
          · refine qbq (1, d', [n]) [0, 1, 2, 4] ⟨⟨by simp, g1, by simp only; omega, by simpa using i4, rfl⟩, by simp⟩ rfl (by simp) ?_ ?_ ?_
            all_goals simp only [q2c, hW2, encs, qdc, qdd]
            all_goals simp only [go_sem, ↓reduceIte, Nat.reduceEqDiff, Nat.reduceAdd, Nat.reduceSub, Nat.reduceMul, Nat.reduceLT, Nat.reduceLeDiff, reduceCtorEq, Int.reduceToNat]
            all_goals (try simp only [hab, har, show IntKind.i64.wrap (0 + 1) = ((1 : Nat) : Int) by rfl, and_self, true_and])
            all_goals (try rfl)
          · exfalso; omega
      · have hwn : (w = []) = False := eq_false (fun h => h0 (hw0.1 h))
        have ha : acc ≠ [] := fun h => h0 (by rw [← i5, h]; rfl)
        have hne := qch ha
        have hik : ifsK d w = qu d w := by rw [ifsK, if_neg (fun h => h0 (hw0.1 h))]
        rw [hik] at i4
        have g1 : (qu d w).1.good := (qp d w).1 i2
        have hr1 := (qp d w).2.1
        have hx := ih (qu d w).1 g1 (by omega)
        have g2 : (rec (qu d w).1).1.good := (hm _).1 g1
        have hr2 := (hm (qu d w).1).2.1
        have hcap : qq (acc.length + 1) 64 := capN (by omega)
        simp only [qb9 hne, qb7 hne, qb0]
        by_cases hwt : (qu d w).2 = true
        · rw [if_pos hwt] at i4
          generalize rec (qu d w).1 = r at *
          obtain ⟨d', o⟩ := r
          simp only at g2 hr2 hx i4
          cases o with
          | none =>
            rw [if_neg (by simp)] at i4
            subst i4
            repeat' (first | refine ql ?_ | refine qk ?_ | ((first | refine qn ?_ | refine qm ?_ | refine qs ?_ | refine qj ?_ | refine qi ?_); simp (disch := first | omega | (simp only [List.length_set, List.length_append, List.length_cons, List.length_nil]; done) | (simp only [List.length_set, List.length_append, List.length_cons, List.length_nil]; omega)) only [hil, hwn, Nat.mul_one, hget, hln, ne_eq, not_true_eq_false, not_false_eq_true, decide_true, decide_false, Option.isSome_none, Option.isSome_some, Option.getD_none, Option.getD_some, hwt, go_sem, ↓reduceIte, Nat.reduceEqDiff, Nat.reduceAdd, Nat.reduceSub, Nat.reduceMul, Nat.reduceLT, Nat.reduceLeDiff, reduceCtorEq, Int.reduceToNat]) | ((first | refine qf ?_ ?_ | refine qd ?_ ?_) <;> intro hc <;> simp only [hc, go_sem, ↓reduceIte, Nat.reduceEqDiff, Nat.reduceAdd, Nat.reduceSub, Nat.reduceMul, Nat.reduceLT, Nat.reduceLeDiff, reduceCtorEq, Int.reduceToNat] <;> (try simp only [qb, qa, decide_eq_true_eq, decide_eq_false_iff_not, Bool.and_eq_true] at hc)) | refine And.intro (by first | assumption | omega | (have := qg (by assumption); omega) | (unfold qq; omega)) ?_ | ((first | simp (disch := omega) only [qv] | simp (disch := omega) only [qbe]); (try simp only [go_sem, ↓reduceIte, Nat.reduceEqDiff, Nat.reduceAdd, Nat.reduceSub, Nat.reduceMul, Nat.reduceLT, Nat.reduceLeDiff, reduceCtorEq, Int.reduceToNat])) | ((first | refine qdh hx rfl ?_ | refine qdz i2.ok ?_); simp only [go_sem, ↓reduceIte, Nat.reduceEqDiff, Nat.reduceAdd, Nat.reduceSub, Nat.reduceMul, Nat.reduceLT, Nat.reduceLeDiff, reduceCtorEq, Int.reduceToNat]))
            all_goals (simp only [enc, encs])
          | some n =>
            rw [if_pos (by rfl)] at i4
            repeat' (first | refine ql ?_ | refine qk ?_ | ((first | refine qn ?_ | refine qm ?_ | refine qs ?_ | refine qj ?_ | refine qi ?_); simp (disch := first | omega | (simp only [List.length_set, List.length_append, List.length_cons, List.length_nil]; done) | (simp only [List.length_set, List.length_append, List.length_cons, List.length_nil]; omega)) only [hil, hwn, Nat.mul_one, hget, hln, ne_eq, not_true_eq_false, not_false_eq_true, decide_true, decide_false, Option.isSome_none, Option.isSome_some, Option.getD_none, Option.getD_some, hwt, go_sem, ↓reduceIte, Nat.reduceEqDiff, Nat.reduceAdd, Nat.reduceSub, Nat.reduceMul, Nat.reduceLT, Nat.reduceLeDiff, reduceCtorEq, Int.reduceToNat]) | ((first | refine qf ?_ ?_ | refine qd ?_ ?_) <;> intro hc <;> simp only [hc, go_sem, ↓reduceIte, Nat.reduceEqDiff, Nat.reduceAdd, Nat.reduceSub, Nat.reduceMul, Nat.reduceLT, Nat.reduceLeDiff, reduceCtorEq, Int.reduceToNat] <;> (try simp only [qb, qa, decide_eq_true_eq, decide_eq_false_iff_not, Bool.and_eq_true] at hc)) | refine And.intro (by first | assumption | omega | (have := qg (by assumption); omega) | (unfold qq; omega)) ?_ | ((first | simp (disch := omega) only [qv] | simp (disch := omega) only [qbe]); (try simp only [go_sem, ↓reduceIte, Nat.reduceEqDiff, Nat.reduceAdd, Nat.reduceSub, Nat.reduceMul, Nat.reduceLT, Nat.reduceLeDiff, reduceCtorEq, Int.reduceToNat])) | ((first | refine qdh hx rfl ?_ | refine qdz i2.ok ?_); simp only [go_sem, ↓reduceIte, Nat.reduceEqDiff, Nat.reduceAdd, Nat.reduceSub, Nat.reduceMul, Nat.reduceLT, Nat.reduceLeDiff, reduceCtorEq, Int.reduceToNat]))
            refine qbq (i + 1, d', acc ++ [n]) [0, 1, 2, 5] ⟨⟨by simp only; omega, g2, by simp only; omega, by simpa using i4, by simp [i5]⟩, by simp only; omega⟩ rfl (by simp) ?_ ?_ ?_
            all_goals simp only [q2c, hW2, ← qz, qcr, qcs]
            all_goals simp only [go_sem, ↓reduceIte, Nat.reduceEqDiff, Nat.reduceAdd, Nat.reduceSub, Nat.reduceMul, Nat.reduceLT, Nat.reduceLeDiff, reduceCtorEq, Int.reduceToNat]
            all_goals (try simp only [hab, har, and_self, true_and])
            all_goals (try (rw [qz, qb8, qc1]; exact ⟨rfl, rfl⟩))
            all_goals (try (rw [qbe (by unfold maxLen; omega)]))
        · rw [if_neg hwt] at i4
          subst i4
          repeat' (first | refine ql ?_ | refine qk ?_ | ((first | refine qn ?_ | refine qm ?_ | refine qs ?_ | refine qj ?_ | refine qi ?_); simp (disch := first | omega | (simp only [List.length_set, List.length_append, List.length_cons, List.length_nil]; done) | (simp only [List.length_set, List.length_append, List.length_cons, List.length_nil]; omega)) only [hil, hwn, Nat.mul_one, hget, hln, ne_eq, not_true_eq_false, not_false_eq_true, decide_true, decide_false, Option.isSome_none, Option.isSome_some, Option.getD_none, Option.getD_some, hwt, go_sem, ↓reduceIte, Nat.reduceEqDiff, Nat.reduceAdd, Nat.reduceSub, Nat.reduceMul, Nat.reduceLT, Nat.reduceLeDiff, reduceCtorEq, Int.reduceToNat]) | ((first | refine qf ?_ ?_ | refine qd ?_ ?_) <;> intro hc <;> simp only [hc, go_sem, ↓reduceIte, Nat.reduceEqDiff, Nat.reduceAdd, Nat.reduceSub, Nat.reduceMul, Nat.reduceLT, Nat.reduceLeDiff, reduceCtorEq, Int.reduceToNat] <;> (try simp only [qb, qa, decide_eq_true_eq, decide_eq_false_iff_not, Bool.and_eq_true] at hc)) | refine And.intro (by first | assumption | omega | (have := qg (by assumption); omega) | (unfold qq; omega)) ?_ | ((first | simp (disch := omega) only [qv] | simp (disch := omega) only [qbe]); (try simp only [go_sem, ↓reduceIte, Nat.reduceEqDiff, Nat.reduceAdd, Nat.reduceSub, Nat.reduceMul, Nat.reduceLT, Nat.reduceLeDiff, reduceCtorEq, Int.reduceToNat])) | ((first | refine qdz i2.ok ?_); simp only [go_sem, ↓reduceIte, Nat.reduceEqDiff, Nat.reduceAdd, Nat.reduceSub, Nat.reduceMul, Nat.reduceLT, Nat.reduceLeDiff, reduceCtorEq, Int.reduceToNat]))
          all_goals (simp only [enc, encs])
    · obtain rfl : i = 3 := by omega
      have hil : ¬ (3 : Int) < 3 := by omega
      have ha : acc ≠ [] := fun h => by rw [h] at i5; cases i5
      have hne := qch ha
      rw [show ifsW.drop 3 = [] from rfl, qeh] at i4
      subst i4
      simp only [qb9 hne, qb7 hne, qb0]
      repeat' (first | refine ql ?_ | refine qk ?_ | ((first | refine qn ?_ | refine qm ?_ | refine qs ?_ | refine qj ?_ | refine qi ?_); simp (disch := first | omega | (simp only [List.length_set, List.length_append, List.length_cons, List.length_nil]; done) | (simp only [List.length_set, List.length_append, List.length_cons, List.length_nil]; omega)) only [hil, go_sem, ↓reduceIte, Nat.reduceEqDiff, Nat.reduceAdd, Nat.reduceSub, Nat.reduceMul, Nat.reduceLT, Nat.reduceLeDiff, reduceCtorEq, Int.reduceToNat]) | ((first | refine qf ?_ ?_ | refine qd ?_ ?_) <;> intro hc <;> simp only [hc, go_sem, ↓reduceIte, Nat.reduceEqDiff, Nat.reduceAdd, Nat.reduceSub, Nat.reduceMul, Nat.reduceLT, Nat.reduceLeDiff, reduceCtorEq, Int.reduceToNat] <;> (try simp only [qb, qa, decide_eq_true_eq, decide_eq_false_iff_not, Bool.and_eq_true] at hc)) | refine And.intro (by first | assumption | omega | (have := qg (by assumption); omega) | (unfold qq; omega)) ?_ | ((first | simp (disch := omega) only [qv] | simp (disch := omega) only [qbe]); (try simp only [go_sem, ↓reduceIte, Nat.reduceEqDiff, Nat.reduceAdd, Nat.reduceSub, Nat.reduceMul, Nat.reduceLT, Nat.reduceLeDiff, reduceCtorEq, Int.reduceToNat])))
      all_goals first | (simp only [enc, encs]; done) | (exfalso; omega) | skip
theorem q6t (c : K) (hg : c.good) (hr : rest c ≤ b) : qco Tryz.prog 31 (curE c) (curE (qej rec c).1) [.ptr 0 0] (resB (qej rec c).2) := by
  have g1 : (qr c [92]).1.good := (qbb _ _).1 hg
  have g2 : (qr c [108, 101, 116]).1.good := (qbb _ _).1 hg
  have g3 : (qr c [99, 97, 115, 101]).1.good := (qbb _ _).1 hg
  have g4 : (qr c [105, 102]).1.good := (qbb _ _).1 hg
  refine qbd c0t 1 (by simp) (by simp) ?_
  unfold qej
  by_cases t1 : (qr c [92]).2 = true
  · rw [if_pos t1]
    have l1 := qea t1
    by_cases hk : (qbc (qr c [92]).1).kind = 1
    · rw [if_pos hk]
      have hl := qqq ih [45, 62] (rest (qr c [92]).1 + 1) _ g1 (by omega) (Nat.lt_succ_self _)
      repeat' (first | refine ql ?_ | refine qk ?_ | ((first | refine qk4 ?_ | refine qw ?_ | refine qm ?_ | refine qj ?_ | refine qi ?_); simp (disch := first | omega | (simp only [List.length_set, List.length_append, List.length_cons, List.length_nil]; done) | (simp only [List.length_set, List.length_append, List.length_cons, List.length_nil]; omega)) only [t1, hk, ne_eq, not_true_eq_false, decide_false, go_sem, ↓reduceIte, Nat.reduceEqDiff, Nat.reduceAdd, Nat.reduceSub, Nat.reduceMul, Nat.reduceLT, Nat.reduceLeDiff, reduceCtorEq, Int.reduceToNat]) | ((first | refine qf ?_ ?_ | refine qd ?_ ?_) <;> intro hc <;> simp only [hc, go_sem, ↓reduceIte, Nat.reduceEqDiff, Nat.reduceAdd, Nat.reduceSub, Nat.reduceMul, Nat.reduceLT, Nat.reduceLeDiff, reduceCtorEq, Int.reduceToNat] <;> (try simp only [qb, qa, decide_eq_true_eq, decide_eq_false_iff_not, Bool.and_eq_true] at hc)) | refine And.intro (by first | assumption | omega | (have := qg (by assumption); omega) | (unfold qq; omega)) ?_ | fail | ((first | refine qdt ?_ | refine qe9 hg.ok ?_ | refine qn7 hl rfl ?_); simp only [go_sem, ↓reduceIte, Nat.reduceEqDiff, Nat.reduceAdd, Nat.reduceSub, Nat.reduceMul, Nat.reduceLT, Nat.reduceLeDiff, reduceCtorEq, Int.reduceToNat]))
    · rw [if_neg hk]
      repeat' (first | refine ql ?_ | refine qk ?_ | ((first | refine qk4 ?_ | refine qw ?_ | refine qm ?_ | refine qj ?_ | refine qi ?_); simp (disch := first | omega | (simp only [List.length_set, List.length_append, List.length_cons, List.length_nil]; done) | (simp only [List.length_set, List.length_append, List.length_cons, List.length_nil]; omega)) only [t1, hk, ne_eq, not_false_eq_true, decide_true, go_sem, ↓reduceIte, Nat.reduceEqDiff, Nat.reduceAdd, Nat.reduceSub, Nat.reduceMul, Nat.reduceLT, Nat.reduceLeDiff, reduceCtorEq, Int.reduceToNat]) | ((first | refine qf ?_ ?_ | refine qd ?_ ?_) <;> intro hc <;> simp only [hc, go_sem, ↓reduceIte, Nat.reduceEqDiff, Nat.reduceAdd, Nat.reduceSub, Nat.reduceMul, Nat.reduceLT, Nat.reduceLeDiff, reduceCtorEq, Int.reduceToNat] <;> (try simp only [qb, qa, decide_eq_true_eq, decide_eq_false_iff_not, Bool.and_eq_true] at hc)) | refine And.intro (by first | assumption | omega | (have := qg (by assumption); omega) | (unfold qq; omega)) ?_ | fail | ((first | refine qdt ?_ | refine qe9 hg.ok ?_ | refine qbrj ?_); simp only [go_sem, ↓reduceIte, Nat.reduceEqDiff, Nat.reduceAdd, Nat.reduceSub, Nat.reduceMul, Nat.reduceLT, Nat.reduceLeDiff, reduceCtorEq, Int.reduceToNat]))
      rw [qkw]
  · have t1f : (qr c [92]).2 = false := by simpa using t1
    have e1 := qdj t1f
    rw [if_neg t1]
    by_cases t2 : (qr c [108, 101, 116]).2 = true
    · rw [if_pos t2]
      have l2 := qea t2
      have hl := qbek hm ih (qbc c).pos _ g2 (by omega)
      unfold posZ at hl
      repeat' (first | refine ql ?_ | refine qk ?_ | ((first | refine qk4 ?_ | refine qw ?_ | refine qm ?_ | refine qj ?_ | refine qi ?_); simp (disch := first | omega | (simp only [List.length_set, List.length_append, List.length_cons, List.length_nil]; done) | (simp only [List.length_set, List.length_append, List.length_cons, List.length_nil]; omega)) only [t1f, e1, t2, go_sem, ↓reduceIte, Nat.reduceEqDiff, Nat.reduceAdd, Nat.reduceSub, Nat.reduceMul, Nat.reduceLT, Nat.reduceLeDiff, reduceCtorEq, Int.reduceToNat]) | ((first | refine qf ?_ ?_ | refine qd ?_ ?_) <;> intro hc <;> simp only [hc, go_sem, ↓reduceIte, Nat.reduceEqDiff, Nat.reduceAdd, Nat.reduceSub, Nat.reduceMul, Nat.reduceLT, Nat.reduceLeDiff, reduceCtorEq, Int.reduceToNat] <;> (try simp only [qb, qa, decide_eq_true_eq, decide_eq_false_iff_not, Bool.and_eq_true] at hc)) | refine And.intro (by first | assumption | omega | (have := qg (by assumption); omega) | (unfold qq; omega)) ?_ | fail | ((first | refine qdt ?_ | refine qe9 hg.ok ?_ | refine qn7 hl rfl ?_); simp only [go_sem, ↓reduceIte, Nat.reduceEqDiff, Nat.reduceAdd, Nat.reduceSub, Nat.reduceMul, Nat.reduceLT, Nat.reduceLeDiff, reduceCtorEq, Int.reduceToNat]))
    · have t2f : (qr c [108, 101, 116]).2 = false := by simpa using t2
      have e2 := qdj t2f
      rw [if_neg t2]
      by_cases t3 : (qr c [99, 97, 115, 101]).2 = true
      · rw [if_pos t3]
        have l2 := qea t3
        have hl := q10 hm ih (qbc c).pos _ g3 (by omega)
        unfold posZ at hl
        repeat' (first | refine ql ?_ | refine qk ?_ | ((first | refine qk4 ?_ | refine qw ?_ | refine qm ?_ | refine qj ?_ | refine qi ?_); simp (disch := first | omega | (simp only [List.length_set, List.length_append, List.length_cons, List.length_nil]; done) | (simp only [List.length_set, List.length_append, List.length_cons, List.length_nil]; omega)) only [t1f, e1, t2f, e2, t3, go_sem, ↓reduceIte, Nat.reduceEqDiff, Nat.reduceAdd, Nat.reduceSub, Nat.reduceMul, Nat.reduceLT, Nat.reduceLeDiff, reduceCtorEq, Int.reduceToNat]) | ((first | refine qf ?_ ?_ | refine qd ?_ ?_) <;> intro hc <;> simp only [hc, go_sem, ↓reduceIte, Nat.reduceEqDiff, Nat.reduceAdd, Nat.reduceSub, Nat.reduceMul, Nat.reduceLT, Nat.reduceLeDiff, reduceCtorEq, Int.reduceToNat] <;> (try simp only [qb, qa, decide_eq_true_eq, decide_eq_false_iff_not, Bool.and_eq_true] at hc)) | refine And.intro (by first | assumption | omega | (have := qg (by assumption); omega) | (unfold qq; omega)) ?_ | fail | ((first | refine qdt ?_ | refine qe9 hg.ok ?_ | refine qn7 hl rfl ?_); simp only [go_sem, ↓reduceIte, Nat.reduceEqDiff, Nat.reduceAdd, Nat.reduceSub, Nat.reduceMul, Nat.reduceLT, Nat.reduceLeDiff, reduceCtorEq, Int.reduceToNat]))
      · have t3f : (qr c [99, 97, 115, 101]).2 = false := by simpa using t3
        have e3 := qdj t3f
        rw [if_neg t3]
        by_cases t4 : (qr c [105, 102]).2 = true
        · rw [if_pos t4]
          have l2 := qea t4
          have hl := qbk0 hm ih (qbc c).pos _ g4 (by omega)
          unfold posZ at hl
          repeat' (first | refine ql ?_ | refine qk ?_ | ((first | refine qk4 ?_ | refine qw ?_ | refine qm ?_ | refine qj ?_ | refine qi ?_); simp (disch := first | omega | (simp only [List.length_set, List.length_append, List.length_cons, List.length_nil]; done) | (simp only [List.length_set, List.length_append, List.length_cons, List.length_nil]; omega)) only [t1f, e1, t2f, e2, t3f, e3, t4, go_sem, ↓reduceIte, Nat.reduceEqDiff, Nat.reduceAdd, Nat.reduceSub, Nat.reduceMul, Nat.reduceLT, Nat.reduceLeDiff, reduceCtorEq, Int.reduceToNat]) | ((first | refine qf ?_ ?_ | refine qd ?_ ?_) <;> intro hc <;> simp only [hc, go_sem, ↓reduceIte, Nat.reduceEqDiff, Nat.reduceAdd, Nat.reduceSub, Nat.reduceMul, Nat.reduceLT, Nat.reduceLeDiff, reduceCtorEq, Int.reduceToNat] <;> (try simp only [qb, qa, decide_eq_true_eq, decide_eq_false_iff_not, Bool.and_eq_true] at hc)) | refine And.intro (by first | assumption | omega | (have := qg (by assumption); omega) | (unfold qq; omega)) ?_ | fail | ((first | refine qdt ?_ | refine qe9 hg.ok ?_ | refine qn7 hl rfl ?_); simp only [go_sem, ↓reduceIte, Nat.reduceEqDiff, Nat.reduceAdd, Nat.reduceSub, Nat.reduceMul, Nat.reduceLT, Nat.reduceLeDiff, reduceCtorEq, Int.reduceToNat]))
        · have t4f : (qr c [105, 102]).2 = false := by simpa using t4
          have e4 := qdj t4f
          rw [if_neg t4]
          have hl := q52 hm ih _ hg hr
          repeat' (first | refine ql ?_ | refine qk ?_ | ((first | refine qk4 ?_ | refine qw ?_ | refine qm ?_ | refine qj ?_ | refine qi ?_); simp (disch := first | omega | (simp only [List.length_set, List.length_append, List.length_cons, List.length_nil]; done) | (simp only [List.length_set, List.length_append, List.length_cons, List.length_nil]; omega)) only [t1f, e1, t2f, e2, t3f, e3, t4f, e4, go_sem, ↓reduceIte, Nat.reduceEqDiff, Nat.reduceAdd, Nat.reduceSub, Nat.reduceMul, Nat.reduceLT, Nat.reduceLeDiff, reduceCtorEq, Int.reduceToNat]) | ((first | refine qf ?_ ?_ | refine qd ?_ ?_) <;> intro hc <;> simp only [hc, go_sem, ↓reduceIte, Nat.reduceEqDiff, Nat.reduceAdd, Nat.reduceSub, Nat.reduceMul, Nat.reduceLT, Nat.reduceLeDiff, reduceCtorEq, Int.reduceToNat] <;> (try simp only [qb, qa, decide_eq_true_eq, decide_eq_false_iff_not, Bool.and_eq_true] at hc)) | refine And.intro (by first | assumption | omega | (have := qg (by assumption); omega) | (unfold qq; omega)) ?_ | fail | ((first | refine qdt ?_ | refine qe9 hg.ok ?_ | refine qn7 hl rfl ?_); simp only [go_sem, ↓reduceIte, Nat.reduceEqDiff, Nat.reduceAdd, Nat.reduceSub, Nat.reduceMul, Nat.reduceLT, Nat.reduceLeDiff, reduceCtorEq, Int.reduceToNat]))
end
end Go.Proofs.YtmekebfgmjaenaaGreat
