/- Texts of this proof, joined. -/
import Derived.Test.YtfjbmjplnmaclaaGreatQbb

/- expressions: what is read (plain) -/
namespace Go.Proofs.YtfjbmjplnmaclaaGreat
open Go Go.RowKit Go.V
set_option linter.unusedVariables false
set_option linter.unusedSimpArgs false

def qkj (c : K) : Option N :=
 if (qq c).kind = 1 then some (qie c 21 [])
 else if (qq c).kind = 2 then some (qie c 22 [])
 else if (qq c).kind = 3 then some (.mk 23 (qq c).pos (qq c).num [] [])
 else none
def begE (c : K) : Bool := (qkj c).isSome || isK c [40]
def qbl (rec : K → K × Option N) (c : K) : K × Option N :=
 if (qkj c).isSome = true then (qu c, qkj c)
 else if isK c [40] = true then
  if (qc c).2 = true then
   if (rec (qu (qc c).1)).2.isSome = true then
    if (qi (rec (qu (qc c).1)).1 [41]).2 = true then (qcj (qi (rec (qu (qc c).1)).1 [41]).1, (rec (qu (qc c).1)).2)
    else ((qi (rec (qu (qc c).1)).1 [41]).1, none)
   else ((rec (qu (qc c).1)).1, none)
  else ((qc c).1, none)
 else (qdh c 5, none)
abbrev R3 := K × N × Bool
def ofO (r : K × Option N) : R3 := (r.1, r.2.getD N0, r.2.isSome)
def toO (r : R3) : K × Option N := (r.1, if r.2.2 = true then some r.2.1 else none)
def appN (n k : N) : N := .mk 24 n.pos 0 [] [n, k]
def qgg (rec : K → K × Option N) : Nat → K → N → R3
 | 0, c, n => (c, n, false)
 | f + 1, c, n =>
   if begE c = true then
    if (qbl rec c).2.isSome = true then qgg rec f (qbl rec c).1 (appN n ((qbl rec c).2.getD N0))
    else ((qbl rec c).1, appN n ((qbl rec c).2.getD N0), false)
   else (c, n, true)
def qh9 (rec : K → K × Option N) (c : K) : R3 :=
 if (qbl rec c).2.isSome = true then qgg rec (rest (qbl rec c).1 + 1) (qbl rec c).1 ((qbl rec c).2.getD N0)
 else ((qbl rec c).1, (qbl rec c).2.getD N0, false)
def lamN (t : T) (n : N) : N := .mk 25 t.pos 0 t.text [n]
def qck (rec : K → K × Option N) (x : List UInt8) : Nat → K → R3
 | 0, c => (c, N0, false)
 | f + 1, c =>
   if (qq c).kind = 1 then ((qck rec x f (qu c)).1, lamN (qq c) (qck rec x f (qu c)).2.1, (qck rec x f (qu c)).2.2)
   else if (qi c x).2 = true then ofO (rec (qi c x).1)
   else ((qi c x).1, N0, false)
def qpp (k : Int) (t : T) (n : N) : N := .mk k t.pos 0 t.text [n]
def qb8 (rec : K → K × Option N) (c : K) : K × Option N :=
 if (qn c 1).2 = true then
  if (qf (qn c 1).1 [58, 58]).2 = true then
   ((qfu (rest (qf (qn c 1).1 [58, 58]).1 + 2) (qf (qn c 1).1 [58, 58]).1).1, (qfu (rest (qf (qn c 1).1 [58, 58]).1 + 2) (qf (qn c 1).1 [58, 58]).1).2.map (qpp 32 (qev c 1)))
  else ((qck rec [61] (rest (qn c 1).1 + 1) (qn c 1).1).1, (toO (qck rec [61] (rest (qn c 1).1 + 1) (qn c 1).1)).2.map (qpp 31 (qev c 1)))
 else ((qn c 1).1, none)
abbrev RL := K × List N × Bool
def qcc (rd : K → R3) : Nat → K → List N → RL
 | 0, c, _ => (c, [], false)
 | f + 1, c, acc =>
   if (rd c).2.2 = true then
    if ((qf (rd c).1 [59]).2 && !isK (qf (rd c).1 [59]).1 [125]) = true then qcc rd f (qf (rd c).1 [59]).1 (acc ++ [(rd c).2.1])
    else ((qi (qf (rd c).1 [59]).1 [125]).1, acc ++ [(rd c).2.1], (qi (qf (rd c).1 [59]).1 [125]).2)
   else ((rd c).1, [], false)
def qbp (rd : K → R3) (c : K) : RL :=
 if (qi c [123]).2 = true then qcc rd (rest (qi c [123]).1 + 1) (qi c [123]).1 [] else ((qi c [123]).1, [], false)
def posN (p : Int) : N := .mk 0 p 0 [] []
def letC (rec : K → K × Option N) (p : Int) (l : List N) (w : K × Bool) : R3 :=
 if w.2 = true then ((rec w.1).1, .mk 26 p 0 [] (l ++ [(rec w.1).2.getD N0]), (rec w.1).2.isSome) else (w.1, posN p, false)
def letB (rec : K → K × Option N) (p : Int) (l : RL) : R3 :=
 if l.2.2 = true then letC rec p l.2.1 (qi l.1 [105, 110]) else (l.1, posN p, false)
def qjd (rec : K → K × Option N) (p : Int) (c : K) : R3 := letB rec p (qbp (fun c => ofO (qb8 rec c)) c)
def altN (p e : N) : N := .mk 15 p.pos 0 [] [p, e]
def altC (rec : K → K × Option N) (p : N) (w : K × Bool) : R3 :=
 if w.2 = true then ((rec w.1).1, altN p ((rec w.1).2.getD N0), (rec w.1).2.isSome) else (w.1, p, false)
def altB (rec : K → K × Option N) (r : K × Option N) : R3 :=
 if r.2.isSome = true then altC rec (r.2.getD N0) (qi r.1 [45, 62]) else (r.1, r.2.getD N0, false)
def qfg (rec : K → K × Option N) (c : K) : R3 := altB rec (qcz (rest c + 2) c)
def q46 (p : Int) (x : N) (l : RL) : R3 := (l.1, .mk 27 p 0 [] (x :: l.2.1), l.2.2)
def q35 (rec : K → K × Option N) (p : Int) (x : N) (w : K × Bool) : R3 :=
 if w.2 = true then q46 p x (qbp (qfg rec) w.1) else (w.1, posN p, false)
def qgr (rec : K → K × Option N) (p : Int) (c : K) : R3 :=
 if (rec c).2.isSome = true then q35 rec p ((rec c).2.getD N0) (qi (rec c).1 [111, 102]) else ((rec c).1, posN p, false)
def ifsK (c : K) (w : List UInt8) : K × Bool := if w = [] then (c, true) else qi c w
def qeq (rec : K → K × Option N) (p : Int) : List (List UInt8) → K → List N → R3
 | [], c, acc => (c, .mk 28 p 0 [] acc, true)
 | w :: r, c, acc =>
   if (ifsK c w).2 = true then
    if (rec (ifsK c w).1).2.isSome = true then qeq rec p r (rec (ifsK c w).1).1 (acc ++ [(rec (ifsK c w).1).2.getD N0])
    else ((rec (ifsK c w).1).1, .mk 28 p 0 [] acc, false)
   else ((ifsK c w).1, .mk 28 p 0 [] acc, false)
def ifsW : List (List UInt8) := [[], [116, 104, 101, 110], [101, 108, 115, 101]]
def qe1 (rec : K → K × Option N) (c : K) : R3 :=
 if (qf c [92]).2 = true then
  if (qq (qf c [92]).1).kind = 1 then qck rec [45, 62] (rest (qf c [92]).1 + 1) (qf c [92]).1
  else (qdh (qf c [92]).1 5, posN (qq c).pos, false)
 else if (qf c [108, 101, 116]).2 = true then qjd rec (qq c).pos (qf c [108, 101, 116]).1
 else if (qf c [99, 97, 115, 101]).2 = true then qgr rec (qq c).pos (qf c [99, 97, 115, 101]).1
 else if (qf c [105, 102]).2 = true then qeq rec (qq c).pos ifsW (qf c [105, 102]).1 []
 else qh9 rec c
def qiw : Nat → K → K × Option N
 | 0, c => (c, none)
 | f + 1, c =>
   if (qc c).2 = true then (qcj (qe1 (qiw f) (qc c).1).1, (toO (qe1 (qiw f) (qc c).1)).2)
   else ((qc c).1, none)

theorem qoi {c : K} (h : (qkj c).isSome = true) : (qq c).kind ≠ 0 := by
 unfold qkj at h
 split at h
 ·omega
 ·split at h
  ·omega
  ·split at h
   ·omega
   ·cases h
theorem qxw {c : K} (h : begE c = true) : (qq c).kind ≠ 0 := by
 simp only [begE, Bool.or_eq_true] at h
 rcases h with h | h
 ·exact qoi h
 ·exact qdu h
theorem qc1 {c : K} {x : List UInt8} (h : (qf c x).2 = true) : rest (qf c x).1 < rest c := by
 unfold qf at h ⊢
 split at h
 ·rename_i h1
  rw [if_pos h1]
  have := qbk (qdu h1)
  simp only; omega
 ·cases h
theorem qh6 {c : K} {x : List UInt8} (h : (qi c x).2 = true) : rest (qi c x).1 < rest c := by
 unfold qi at h ⊢
 split at h
 ·rename_i h1
  rw [if_pos h1]
  have := qbk (qdu h1)
  simp only; omega
 ·cases h
theorem qzu {c : K} (h : (qn c 1).2 = true) : rest (qn c 1).1 < rest c := by
 obtain ⟨h1, h2⟩ := qhm h
 rw [(qlk h).1]
 have := qbk (c := c) (by omega)
 simp only; omega
section
variable {rec : K → K × Option N} (hm : ∀ c, Mon c (rec c).1)
include hm
theorem qdc (c : K) : Mon c (qbl rec c).1 := by
 unfold qbl
 split
 ·exact qbo c
 ·split
  ·split
   ·have h1 := ((qm c).trans (qbo _)).trans (hm _)
    split
    ·split
     ·exact (h1.trans (qd _ _)).trans (qbv _)
     ·exact h1.trans (qd _ _)
    ·exact h1
   ·exact qm c
  ·exact qeg c 5
theorem qk0 {c : K} (h : (qbl rec c).2.isSome = true) : rest (qbl rec c).1 < rest c := by
 unfold qbl at h ⊢
 split at h
 ·rename_i hl
  rw [if_pos hl]
  have := qbk (qoi hl)
  simp only; omega
 ·rename_i hl
  rw [if_neg hl]
  split at h
  ·rename_i hk
   rw [if_pos hk]
   split at h
   ·rename_i he
    rw [if_pos he]
    have hp := qbk (c := (qc c).1) (by rw [qe7 he]; exact qdu hk)
    have h0 := (qm c).2.1
    have h1 := (hm (qu (qc c).1)).2.1
    split at h
    ·rename_i hr
     rw [if_pos hr]
     have h2 := (qd (rec (qu (qc c).1)).1 [41]).2.1
     split at h
     ·rename_i hw
      rw [if_pos hw]
      have h3 := (qbv (qi (rec (qu (qc c).1)).1 [41]).1).2.1
      simp only; omega
     ·cases h
    ·cases h
   ·cases h
  ·cases h
theorem qsl : ∀ (f : Nat) (c : K) (n : N), Mon c (qgg rec f c n).1
 | 0, c, n => Mon.refl c
 | f + 1, c, n => by
   rw [qgg]
   split
   ·split
    ·exact (qdc hm c).trans (qsl f _ _)
    ·exact qdc hm c
   ·exact Mon.refl c
theorem q5t (c : K) : Mon c (qh9 rec c).1 := by
 unfold qh9
 split
 ·exact (qdc hm c).trans (qsl hm _ _ _)
 ·exact qdc hm c
theorem qj4 (x : List UInt8) : ∀ (f : Nat) (c : K), Mon c (qck rec x f c).1
 | 0, c => Mon.refl c
 | f + 1, c => by
   rw [qck]
   split
   ·exact (qbo c).trans (qj4 x f _)
   ·split
    ·exact (qd c x).trans (hm _)
    ·exact qd c x
theorem qfs (c : K) : Mon c (qb8 rec c).1 := by
 unfold qb8
 split
 ·split
  ·exact ((qbf c 1).trans (qk _ _)).trans (qmj _ _)
  ·exact (qbf c 1).trans (qj4 hm _ _ _)
 ·exact qbf c 1
theorem qks {c : K} (h : (qb8 rec c).2.isSome = true) : rest (qb8 rec c).1 < rest c := by
 unfold qb8 at h ⊢
 split at h
 ·rename_i h1
  rw [if_pos h1]
  have h2 := qzu h1
  split
  ·have h3 := ((qk (qn c 1).1 [58, 58]).trans (qmj (rest (qf (qn c 1).1 [58, 58]).1 + 2) _)).2.1
   simp only; omega
  ·have h3 := (qj4 hm [61] (rest (qn c 1).1 + 1) (qn c 1).1).2.1
   simp only; omega
 ·cases h
omit hm in
theorem qpc {rd : K → R3} (hd : ∀ c, Mon c (rd c).1) : ∀ (f : Nat) (c : K) (acc : List N), Mon c (qcc rd f c acc).1
 | 0, c, acc => Mon.refl c
 | f + 1, c, acc => by
   rw [qcc]
   split
   ·split
    ·exact ((hd c).trans (qk _ _)).trans (qpc hd f _ _)
    ·exact ((hd c).trans (qk _ _)).trans (qd _ _)
   ·exact hd c
omit hm in
theorem qgt {rd : K → R3} (hd : ∀ c, Mon c (rd c).1) (c : K) : Mon c (qbp rd c).1 := by
 unfold qbp
 split
 ·exact (qd c _).trans (qpc hd _ _ _)
 ·exact qd c _
theorem q48 (p : Int) (c : K) : Mon c (qjd rec p c).1 := by
 unfold qjd letB letC
 have h := qgt (rd := fun c => ofO (qb8 rec c)) (fun c => qfs hm c) c
 split
 ·split
  ·exact (h.trans (qd _ _)).trans (hm _)
  ·exact h.trans (qd _ _)
 ·exact h
theorem qlt (c : K) : Mon c (qfg rec c).1 := by
 unfold qfg altB altC
 have h := qe0 (rest c + 2) c
 split
 ·split
  ·exact (h.trans (qd _ _)).trans (hm _)
  ·exact h.trans (qd _ _)
 ·exact h
theorem qss {c : K} (h : (qfg rec c).2.2 = true) : rest (qfg rec c).1 < rest c := by
 unfold qfg altB altC at h ⊢
 have h1 := (qe0 (rest c + 2) c).2.1
 split at h
 ·rename_i h2
  rw [if_pos h2]
  split at h
  ·rename_i h3
   rw [if_pos h3]
   have h4 := qh6 h3
   have h5 := (hm (qi (qcz (rest c + 2) c).1 [45, 62]).1).2.1
   simp only; omega
  ·cases h
 ·cases h
theorem q0f (p : Int) (c : K) : Mon c (qgr rec p c).1 := by
 unfold qgr q35 q46
 have h := hm c
 split
 ·split
  ·exact (h.trans (qd _ _)).trans (qgt (fun c => qlt hm c) _)
  ·exact h.trans (qd _ _)
 ·exact h
omit hm in
theorem qln (c : K) (w : List UInt8) : Mon c (ifsK c w).1 := by
 unfold ifsK
 split
 ·exact Mon.refl c
 ·exact qd c w
theorem qs9 (p : Int) : ∀ (l : List (List UInt8)) (c : K) (acc : List N), Mon c (qeq rec p l c acc).1
 | [], c, acc => Mon.refl c
 | w :: r, c, acc => by
   rw [qeq]
   split
   ·split
    ·exact ((qln c w).trans (hm _)).trans (qs9 p r _ _)
    ·exact (qln c w).trans (hm _)
   ·exact qln c w
theorem qq5 (c : K) : Mon c (qe1 rec c).1 := by
 unfold qe1
 split
 ·split
  ·exact (qk c _).trans (qj4 hm _ _ _)
  ·exact (qk c _).trans (qeg _ 5)
 ·split
  ·exact (qk c _).trans (q48 hm _ _)
  ·split
   ·exact (qk c _).trans (q0f hm _ _)
   ·split
    ·exact (qk c _).trans (qs9 hm _ _ _ _)
    ·exact q5t hm c
end
theorem qi3 : ∀ (f : Nat) (c : K), Mon c (qiw f c).1
 | 0, c => Mon.refl c
 | f + 1, c => by
   rw [qiw]
   split
   ·exact ((qm c).trans (qq5 (qi3 f) _)).trans (qbv _)
   ·exact qm c
set_option maxRecDepth 4000

def resB (r : N × Bool) : AV := .tup [enc r.1, .bool r.2]
attribute [go_sem] resB
theorem qol (k : Nat) (r : N × Bool) : (resB r).bd k = true := by simp only [resB, AV.bd, AV.bds, qo0, Bool.and_true]
theorem ql4 {P : Program} {f : FuncId} {c c' : K} {L : List Ent} {args : List AV} {r : N × Bool} {Q : List Ent → VO → Prop} (h : qce P f (curE c) (curE c') args (resB r)) (ha : AV.bds 1 args = true) (hq : Q (curE c' :: L) (.val (resB r))) : VApp P (curE c :: L) (.fn f [] []) args Q :=
 qb9 h (qbi _ _) (qbi _ _) ha (qol _ _) fun _ => hq
theorem qbjs (c : K) : qce Tryz.prog 162 (curE c) (curE c) [.ptr 0 0] (resP (qkj c)) := by
 refine qp c0br 1 (by simp) (by simp) ?_
 repeat' (first | refine vs_ ?_ | ((first | refine vr_ ?_ | refine qb6 ?_ | refine a_Is ?_ | (refine cs_ ?_ ?_ <;> intro hc) | refine cj_ ?_ | fail) <;> (try refine ev_ ?_)) | with_reducible exact ti_)
 all_goals (unfold qkj qie; simp_all [enc, encs, N0])
theorem qba0 {c : K} {L : List Ent} {Q : List Ent → VO → Prop} (hq : Q (curE c :: L) (.val (resP (qkj c)))) : VApp Tryz.prog (curE c :: L) (.fn 162 [] []) [.ptr 0 0] Q := qcs (qbjs c) rfl hq
section
variable {rec : K → K × Option N} {b : Nat} (hm : ∀ c, Mon c (rec c).1) (ih : ∀ c, c.good → rest c < b → qce Tryz.prog 116 (curE c) (curE (rec c).1) [.ptr 0 0] (resP (rec c).2))
include hm ih
theorem q2n (c : K) (hg : c.good) (hr : rest c ≤ b) : qce Tryz.prog 161 (curE c) (curE (qbl rec c).1) [.ptr 0 0] (resP (qbl rec c).2) := by
 have g1 : (qc c).1.good := (qm c).1 hg
 have g2 : (qu (qc c).1).good := (qbo _).1 g1
 have g3 : (rec (qu (qc c).1)).1.good := (hm _).1 g2
 have g4 : (qi (rec (qu (qc c).1)).1 [41]).1.good := (qd _ _).1 g3
 have hrr : isK c [40] = true → (qc c).2 = true → rest (qu (qc c).1) < b := fun h1 h2 => by
  have := qbk (c := (qc c).1) (by rw [qe7 h2]; exact qdu h1)
  have := (qm c).2.1
  omega
 refine qp c0bs 1 (by simp) (by simp) ?_
 repeat' (first | refine vs_ ?_ | ((first | refine vr_ ?_ | refine qba0 ?_ | refine a_Is ?_ | refine qud ?_ | refine qi1 ?_ | refine qlf hg.ok ?_ | refine qlf g1.ok ?_ | refine qcs (ih _ g2 (hrr (by assumption) (by assumption))) rfl ?_ | refine qcf g3.ok ?_ | refine qgn g4.2.2 ?_ | (refine cs_ ?_ ?_ <;> intro hc) | refine cj_ ?_ | fail) <;> (try refine ev_ ?_)) | with_reducible exact ti_)
 all_goals (unfold qbl; simp only [*, qdt, Int.reduceEq, if_true, if_false, reduceIte, Bool.false_eq_true, Option.getD_none, Option.getD_some, Option.isSome_none, Option.isSome_some, and_self, true_and, and_true]; try rfl)
omit hm ih
def qn3 (fl : Bool) (n : N) : Ent := .blk [.int .i64 n.kind, .int .i64 n.pos, .int .i64 n.num, .str n.text, if fl = true then .lit 5 (encs n.kids) else .sl 5 (encs n.kids)]
theorem qbje {P : Program} {fr : Option Nat} {k m : Nat} {a : IC} {Q : VE → AF → List Ent → Prop} {af : AF} {A B : Ent} {L : List Ent} {fl : Bool} {n : N} (h : VI P fr k m a Q af (A :: B :: .blk (enc n).cells :: L)) : VI P fr k m a Q af (A :: B :: qn3 fl n :: L) := by
 cases n
 cases fl with
 | false => exact h
 | true =>
   refine qvn 2 4 (.sl 5) (by rfl) ?_
   simp only [List.getD_cons_succ, List.getD_cons_zero, if_true, qng, List.set_cons_succ, List.set_cons_zero]
   exact h
include hm ih
def qbcg (x : Bool × Nat × K × N × Bool) : AF × List Ent :=
 (⟨[(0, .ptr 0 0), (2, .ptr 1 0), (4, .ptr 2 0), (5, .bool x.2.2.2.2)], []⟩, [curE x.2.2.1, .blk [.int .i64 0, .int .i64 0, .int .i64 0, .str [], .nils], qn3 x.1 x.2.2.2.1])
theorem qbdn (c : K) (hg : c.good) (hr : rest c ≤ b) : qce Tryz.prog 153 (curE c) (curE (qh9 rec c).1) [.ptr 0 0] (resB (qh9 rec c).2) := by
 refine qp c0bt 1 (by simp) (by simp) ?_
 have g0 : (qbl rec c).1.good := (qdc hm c).1 hg
 have hr0 : rest (qbl rec c).1 ≤ b := by have := (qdc hm c).2.1; omega
 generalize htg : qh9 rec c = tg
 repeat' (first | refine vs_ ?_ | ((first | refine vr_ ?_ | refine qcs (q2n hm ih _ hg hr) rfl ?_ | (refine cs_ ?_ ?_ <;> intro hc) | refine cj_ ?_ | fail) <;> (try refine ev_ ?_)) | with_reducible exact ti_)
 refine qbm (S := Bool × Nat × K × N × Bool) (fun x => x.2.2.1.good ∧ rest x.2.2.1 ≤ b ∧ (x.2.2.2.2 = true → qgg rec x.2.1 x.2.2.1 x.2.2.2.1 = tg ∧ rest x.2.2.1 < x.2.1) ∧ (x.2.2.2.2 = false → tg = (x.2.2.1, x.2.2.2.1, false)))
  qbcg (fun x => if x.2.2.2.2 = true then rest x.2.2.1 + 1 else 0) ?_ ?_
 ·refine q8 (false, rest (qbl rec c).1 + 1, (qbl rec c).1, (qbl rec c).2.getD N0, (qbl rec c).2.isSome) [0, 1, 2] ⟨g0, hr0, fun h => ⟨?_, Nat.lt_succ_self _⟩, fun h => ?_⟩ rfl (by simp) ?_ ?_ ?_
  ·simp only at h; rw [← htg, qh9, if_pos h]
  ·simp only at h; rw [← htg, qh9, if_neg (by rw [h]; simp)]
  all_goals simp only [qbcg, qn3]
  all_goals (refine ev_ ?_; (try with_reducible exact ti_))
 ·rintro ⟨fl, fu, d, n, ok⟩ ⟨i1, i2, i3, i4⟩
  simp only at i1 i2 i3 i4
  unfold qbcg
  refine qbje ?_
  cases ok with
  | false =>
    have i4 := i4 rfl
    subst i4
    repeat' (first | refine vs_ ?_ | ((first | refine vr_ ?_ | (refine cs_ ?_ ?_ <;> intro hc) | refine cj_ ?_ | fail) <;> (try refine ev_ ?_)) | with_reducible exact ti_)
  | true =>
    obtain ⟨i3, i5⟩ := i3 rfl
    clear i4
    obtain ⟨fu, rfl⟩ : ∃ k, fu = k + 1 := ⟨fu - 1, by omega⟩
    rw [qgg] at i3
    have j1 : (qbl rec d).1.good := (qdc hm d).1 i1
    have j2 : rest (qbl rec d).1 ≤ rest d := (qdc hm d).2.1
    have key : begE d = true → (((qbl rec d).2.isSome = true → qgg rec fu (qbl rec d).1 (appN n ((qbl rec d).2.getD N0)) = tg ∧ rest (qbl rec d).1 < fu) ∧ ((qbl rec d).2.isSome = false → tg = ((qbl rec d).1, appN n ((qbl rec d).2.getD N0), false))) ∧
     (if (qbl rec d).2.isSome = true then rest (qbl rec d).1 + 1 else 0) < rest d + 1 := fun hb => by
     rw [if_pos hb] at i3
     refine ⟨⟨fun h => ?_, fun h => ?_⟩, ?_⟩
     ·rw [if_pos h] at i3
      have := qk0 hm h
      exact ⟨i3, by omega⟩
     ·rw [if_neg (by rw [h]; simp)] at i3
      exact i3.symm
     ·split
      ·rename_i h
       have := qk0 hm h
       omega
      ·omega
    have e1 : (qkj d).isSome = true → begE d = true := fun h => by rw [begE, h]; rfl
    have e2 : isK d [40] = true → begE d = true := fun h => by rw [begE, h, Bool.or_true]
    repeat' (first | refine vs_ ?_ | ((first | refine vr_ ?_ | refine qba0 ?_ | refine a_Is ?_ | refine qcs (q2n hm ih _ i1 i2) rfl ?_ | (refine cs_ ?_ ?_ <;> intro hc) | refine cj_ ?_ | fail) <;> (try refine ev_ ?_)) | with_reducible exact ti_)
    ·have hb : ¬ begE d = true := by rw [begE]; simp_all
     rw [if_neg hb] at i3
     subst i3
     exact ⟨rfl, rfl⟩
    ·obtain ⟨k1, k2⟩ := key (e2 (by assumption))
     refine q8 (true, fu, (qbl rec d).1, appN n ((qbl rec d).2.getD N0), (qbl rec d).2.isSome) [0, 1, 2] ⟨⟨j1, by simp only; omega, k1⟩, by simpa using k2⟩ rfl (by simp) ?_ ?_ ?_
     all_goals simp only [qbcg, qn3, appN, encs, N.kind, N.pos, N.num, N.text, N.kids]
     all_goals (refine ev_ ?_; (try with_reducible exact ti_))
    ·obtain ⟨k1, k2⟩ := key (e1 (by assumption))
     refine q8 (true, fu, (qbl rec d).1, appN n ((qbl rec d).2.getD N0), (qbl rec d).2.isSome) [0, 1, 2] ⟨⟨j1, by simp only; omega, k1⟩, by simpa using k2⟩ rfl (by simp) ?_ ?_ ?_
     all_goals simp only [qbcg, qn3, appN, encs, N.kind, N.pos, N.num, N.text, N.kids]
     all_goals (refine ev_ ?_; (try with_reducible exact ti_))
end
set_option maxRecDepth 4000

theorem q05 (t : T) (n : N) : AV.agg [.int .i64 25, .int .i64 t.pos, .int .i64 0, .str t.text, .sl 5 [enc n]] = enc (lamN t n) := by simp only [lamN, enc, encs]
theorem qgw (k : Int) (t : T) (n : N) : AV.agg [.int .i64 k, .int .i64 t.pos, .int .i64 0, .str t.text, .sl 5 [enc n]] = enc (qpp k t n) := by simp only [qpp, enc, encs]
section
variable {rec : K → K × Option N} {b : Nat} (ih : ∀ c, c.good → rest c < b → qce Tryz.prog 116 (curE c) (curE (rec c).1) [.ptr 0 0] (resP (rec c).2))
include ih
theorem qu4 (x : List UInt8) : ∀ (f : Nat) (c : K), c.good → rest c ≤ b → rest c < f → qce Tryz.prog 72 (curE c) (curE (qck rec x f c).1) [.ptr 0 0, .str x] (resB (qck rec x f c).2)
 | 0, c => fun _ _ h => absurd h (by omega)
 | f + 1, c => fun hg hb hf => by
   have g1 : (qu c).good := (qbo c).1 hg
   have g2 : (qi c x).1.good := (qd c x).1 hg
   refine qp c0bp 1 (by simp) (by simp) ?_
   by_cases hk : (qq c).kind = 1
   ·have hrn := qbk (c := c) (by omega)
    have hl := qu4 x f (qu c) g1 (by omega) (by omega)
    have hpa : qck rec x (f + 1) c = ((qck rec x f (qu c)).1, lamN (qq c) (qck rec x f (qu c)).2.1, (qck rec x f (qu c)).2.2) := by rw [qck, if_pos hk]
    rw [hpa]
    clear hpa
    generalize qck rec x f (qu c) = r at *
    repeat' (first | refine vs_ ?_ | ((first | refine vr_ ?_ | fail) <;> (try simp only [hk, ne_eq, not_true_eq_false, decide_false, go_sem, ↓reduceIte])) | ((first | (refine cs_ ?_ ?_ <;> intro hc) | refine cj_ ?_ | fail | refine qb6 ?_ | refine qlf hg.ok ?_ | refine ql4 hl rfl ?_) <;> (try refine ev_ ?_)) | with_reducible exact ti_)
    all_goals first | (rw [q05]; done) | (rw [q05]; rfl) | (rw [q05]; exact ⟨rfl, rfl⟩)
   ·by_cases hw : (qi c x).2 = true
    ·have hlt := qh6 hw
     have hpa : qck rec x (f + 1) c = ofO (rec (qi c x).1) := by rw [qck, if_neg hk, if_pos hw]
     rw [hpa, ofO]
     repeat' (first | refine vs_ ?_ | ((first | refine vr_ ?_ | fail) <;> (try simp only [hk, hw, ne_eq, not_false_eq_true, decide_true, go_sem, ↓reduceIte])) | ((first | (refine cs_ ?_ ?_ <;> intro hc) | refine cj_ ?_ | fail | refine qb6 ?_ | refine qcf hg.ok ?_ | refine qcs (ih _ g2 (by omega)) rfl ?_) <;> (try refine ev_ ?_)) | with_reducible exact ti_)
    ·have hpa : qck rec x (f + 1) c = ((qi c x).1, N0, false) := by rw [qck, if_neg hk, if_neg hw]
     rw [hpa]
     repeat' (first | refine vs_ ?_ | ((first | refine vr_ ?_ | fail) <;> (try simp only [hk, hw, ne_eq, not_false_eq_true, decide_true, go_sem, ↓reduceIte])) | ((first | (refine cs_ ?_ ?_ <;> intro hc) | refine cj_ ?_ | fail | refine qb6 ?_ | refine qcf hg.ok ?_) <;> (try refine ev_ ?_)) | with_reducible exact ti_)
     all_goals first | (rw [qdt]; done) | (rw [qdt]; rfl) | (rw [qdt]; exact ⟨rfl, rfl⟩)
theorem qt3 (c : K) (hg : c.good) (hr : rest c ≤ b) : qce Tryz.prog 38 (curE c) (curE (qb8 rec c).1) [.ptr 0 0] (resP (qb8 rec c).2) := by
 have g1 : (qn c 1).1.good := (qbf c 1).1 hg
 have hr1 : rest (qn c 1).1 ≤ b := by have := (qbf c 1).2.1; omega
 have g2 : (qf (qn c 1).1 [58, 58]).1.good := (qk _ _).1 g1
 have hl := qu4 ih [61] (rest (qn c 1).1 + 1) (qn c 1).1 g1 hr1 (Nat.lt_succ_self _)
 have hq := q5p (rest (qf (qn c 1).1 [58, 58]).1 + 2) (qf (qn c 1).1 [58, 58]).1 g2 (by omega)
 have ht0 : (qf (qn c 1).1 [58, 58]).2 = false → (qf (qn c 1).1 [58, 58]).1 = (qn c 1).1 := fun h => qc2 h
 refine qp c0bq 1 (by simp) (by simp) ?_
 unfold qb8
 generalize qck rec [61] (rest (qn c 1).1 + 1) (qn c 1).1 = r at *
 generalize qfu (rest (qf (qn c 1).1 [58, 58]).1 + 2) (qf (qn c 1).1 [58, 58]).1 = q at *
 by_cases hk : (qn c 1).2 = true
 ·rw [if_pos hk]
  by_cases ht : (qf (qn c 1).1 [58, 58]).2 = true
  ·rw [if_pos ht]
   cases ho : q.2 with
   | none =>
     rw [ho] at hq
     repeat' (first | refine vs_ ?_ | ((first | refine vr_ ?_ | fail) <;> (try simp (disch := first | omega | (simp only [List.length_set, List.length_append, List.length_cons, List.length_nil]; done) | (simp only [List.length_set, List.length_append, List.length_cons, List.length_nil]; omega)) only [hk, ht, Option.isSome_none, Option.getD_none, go_sem, ↓reduceIte])) | ((first | (refine cs_ ?_ ?_ <;> intro hc) | refine cj_ ?_ | fail | refine qdi hg.ok ?_ | refine qes g1.ok ?_ | refine qcs hq rfl ?_) <;> (try refine ev_ ?_)) | with_reducible exact ti_)
     all_goals first | (rw [qdt]; done) | (rw [qdt]; rfl) | (rw [qdt]; exact ⟨rfl, rfl⟩)
   | some n =>
     rw [ho] at hq
     repeat' (first | refine vs_ ?_ | ((first | refine vr_ ?_ | fail) <;> (try simp (disch := first | omega | (simp only [List.length_set, List.length_append, List.length_cons, List.length_nil]; done) | (simp only [List.length_set, List.length_append, List.length_cons, List.length_nil]; omega)) only [hk, ht, Option.isSome_some, Option.getD_some, go_sem, ↓reduceIte])) | ((first | (refine cs_ ?_ ?_ <;> intro hc) | refine cj_ ?_ | fail | refine qdi hg.ok ?_ | refine qes g1.ok ?_ | refine qcs hq rfl ?_) <;> (try refine ev_ ?_)) | with_reducible exact ti_)
     all_goals first | (rw [qgw]; done) | (rw [qgw]; rfl) | (rw [qgw]; exact ⟨rfl, rfl⟩)
  ·rw [if_neg ht]
   have ht : (qf (qn c 1).1 [58, 58]).2 = false := by simpa using ht
   have ht0 := ht0 ht
   obtain ⟨d, n, ok⟩ := r
   simp only [toO] at hl ⊢
   rw [← ht0] at hl
   cases ok with
   | false =>
     repeat' (first | refine vs_ ?_ | ((first | refine vr_ ?_ | fail) <;> (try simp only [hk, ht, go_sem, ↓reduceIte])) | ((first | (refine cs_ ?_ ?_ <;> intro hc) | refine cj_ ?_ | fail | refine qdi hg.ok ?_ | refine qes g1.ok ?_ | refine ql4 hl rfl ?_) <;> (try refine ev_ ?_)) | with_reducible exact ti_)
     all_goals first | (rw [qdt]; done) | (rw [qdt]; rfl) | (rw [qdt]; exact ⟨rfl, rfl⟩)
   | true =>
     repeat' (first | refine vs_ ?_ | ((first | refine vr_ ?_ | fail) <;> (try simp only [hk, ht, go_sem, ↓reduceIte])) | ((first | (refine cs_ ?_ ?_ <;> intro hc) | refine cj_ ?_ | fail | refine qdi hg.ok ?_ | refine qes g1.ok ?_ | refine ql4 hl rfl ?_) <;> (try refine ev_ ?_)) | with_reducible exact ti_)
     all_goals first | (rw [qgw]; done) | (rw [qgw]; rfl) | (rw [qgw]; exact ⟨rfl, rfl⟩)
 ·rw [if_neg hk]
  repeat' (first | refine vs_ ?_ | ((first | refine vr_ ?_ | fail) <;> (try simp only [hk, go_sem, ↓reduceIte])) | ((first | (refine cs_ ?_ ?_ <;> intro hc) | refine cj_ ?_ | fail | refine qdi hg.ok ?_) <;> (try refine ev_ ?_)) | with_reducible exact ti_)
  all_goals first | (rw [qdt]; done) | (rw [qdt]; rfl) | (rw [qdt]; exact ⟨rfl, rfl⟩)
end
set_option maxRecDepth 4000

def VClo (g : FuncId) (c c' : K) (r : N × Bool) : Prop := VCalls Tryz.prog g [curE c, .blk [.ptr 0 0]] [.ptr 1 0] fun H' o => H' = [curE c', .blk [.ptr 0 0]] ∧ o = .val (resB r)
theorem ql1 (c : K) : [curE c, .blk [.ptr 0 0]].all (Ent.bd 2) = true := by
 simp only [List.all_cons, List.all_nil, qbi, Bool.true_and, Bool.and_true]; rfl
theorem qwf {g : FuncId} {c c' : K} {r : N × Bool} {L : List Ent} {Q : List Ent → VO → Prop} (h : VClo g c c' r) (hq : Q (curE c' :: .blk [.ptr 0 0] :: L) (.val (resB r))) : VApp Tryz.prog (curE c :: .blk [.ptr 0 0] :: L) (.fn g [] [.ptr 1 0]) [] Q :=
 qcd (first := []) (caps := [.ptr 1 0]) (by
  simp only [List.nil_append]
  refine qdj (H0 := [curE c, .blk [.ptr 0 0]]) (L := L) h (ql1 c) rfl ?_
  rintro H1 o ⟨rfl, rfl⟩
  exact ⟨rfl, ql1 c', qol _ _, hq⟩)
def qp2 (rd : K → R3) (g : FuncId) (c : K) : Prop := VCalls Tryz.prog 157 [curE c, .blk [.ptr 0 0]] [.ptr 0 0, .fn g [] [.ptr 1 0]] fun H' o =>
 H' = curE (qbp rd c).1 :: .blk [.ptr 0 0] :: accE 5 (encs (qbp rd c).2.1) ∧ o = .val (.tup [accV 2 (encs (qbp rd c).2.1), .bool (qbp rd c).2.2])
def qzh (g : FuncId) (x : Nat × K × List N) : AF × List Ent :=
 (⟨[(0, .ptr 0 0), (1, .fn g [] [.ptr 1 0]), (6, accV 2 (encs x.2.2))], []⟩, curE x.2.1 :: .blk [.ptr 0 0] :: accE 5 (encs x.2.2))
theorem q2e {rd : K → R3} {g : FuncId} {b : Nat} (hd : ∀ c, Mon c (rd c).1) (hl : ∀ c, (rd c).2.2 = true → rest (rd c).1 < rest c) (ih : ∀ c, c.good → rest c ≤ b → VClo g c (rd c).1 (rd c).2) (c : K) (hg : c.good) (hr : rest c ≤ b) : qp2 rd g c := by
 unfold qp2
 obtain ⟨kk, hk1, hk2, hk0⟩ : ∃ k : Nat, ((qbp rd c).2.1 = [] → k = 2) ∧ ((qbp rd c).2.1 ≠ [] → k = 3) ∧ 2 ≤ k := by
  by_cases h : (qbp rd c).2.1 = []
  ·exact ⟨2, fun _ => rfl, fun g => absurd h g, by omega⟩
  ·exact ⟨3, fun g => absurd g h, fun _ => rfl, by omega⟩
 refine qd1 c0bo kk (by simpa using hk0) (by simp) ?_
 have g1 : (qi c [123]).1.good := (qd c _).1 hg
 have hr1 : rest (qi c [123]).1 ≤ b := by have := (qd c [123]).2.1; omega
 by_cases hw : (qi c [123]).2 = true
 ·have hpa : qbp rd c = qcc rd (rest (qi c [123]).1 + 1) (qi c [123]).1 [] := by rw [qbp, if_pos hw]
  rw [hpa] at hk1 hk2 ⊢
  clear hpa
  generalize htg : qcc rd (rest (qi c [123]).1 + 1) (qi c [123]).1 [] = tg at hk1 hk2 ⊢
  repeat' (first | refine vs_ ?_ | ((first | refine vr_ ?_ | fail) <;> (try simp only [hw, go_sem, ↓reduceIte])) | ((first | (refine cs_ ?_ ?_ <;> intro hc) | refine cj_ ?_ | fail | refine qcf hg.ok ?_) <;> (try refine ev_ ?_)) | with_reducible exact ti_)
  refine qbm (S := Nat × K × List N) (fun x => x.2.1.good ∧ rest x.2.1 ≤ b ∧ qcc rd x.1 x.2.1 x.2.2 = tg ∧ rest x.2.1 < x.1 ∧ x.2.2.length + rest x.2.1 ≤ 1048577)
   (qzh g) (fun x => rest x.2.1) ?_ ?_
  ·refine q8 (rest (qi c [123]).1 + 1, (qi c [123]).1, []) [0, 1] ⟨g1, hr1, htg, Nat.lt_succ_self _, ?_⟩ rfl (by simp) ?_ ?_ ?_
   ·have h9 := g1.rest
    unfold rest
    simp only [List.length_nil]
    omega
   all_goals simp only [qzh, encs, qr, qt]
   all_goals (refine ev_ ?_; (try with_reducible exact ti_))
  ·rintro ⟨fu, d, acc⟩ ⟨i1, i2, i3, i4, i5⟩
   simp only at i1 i2 i3 i4 i5
   obtain ⟨fu, rfl⟩ : ∃ k, fu = k + 1 := ⟨fu - 1, by omega⟩
   rw [qcc] at i3
   have hcap : qdq (acc.length + 1) 64 := capN (by omega)
   have hclo := ih d i1 i2
   have hlt := hl d
   have j1 : (rd d).1.good := (hd d).1 i1
   have j2 := (hd d).2.1
   generalize rd d = r at *
   obtain ⟨d', n, ok⟩ := r
   simp only at j1 j2 hlt i3 hclo
   unfold qzh q7a
   generalize h9 : q74 = R9
   cases ok with
   | false =>
     rw [if_neg (by simp)] at i3
     subst i3
     obtain rfl := hk1 rfl
     by_cases h0 : acc = []
     ·subst h0
      simp only [encs, qr, qt]
      repeat' (first | refine vs_ ?_ | ((first | refine vr_ ?_ | refine qwf hclo ?_ | (refine cs_ ?_ ?_ <;> intro hc) | refine cj_ ?_ | fail) <;> (try refine ev_ ?_)) | with_reducible exact ti_)
      all_goals first | exact ⟨rfl, rfl⟩
     ·have hne := q9 h0
      simp only [qbd hne, qbc hne, qx]
      repeat' (first | refine vs_ ?_ | ((first | refine vr_ ?_ | refine qwf hclo ?_ | (refine cs_ ?_ ?_ <;> intro hc) | refine cj_ ?_ | fail) <;> (try refine ev_ ?_)) | with_reducible exact ti_)
      all_goals first | exact ⟨rfl, rfl⟩
   | true =>
     have hlt := hlt rfl
     rw [if_pos rfl] at i3
     by_cases h0 : acc = []
     ·subst h0
      simp only [encs, qr, qt]
      repeat' (first | refine vs_ ?_ | ((first | refine vr_ ?_ | refine qwf hclo ?_ | (refine cs_ ?_ ?_ <;> intro hc) | refine cj_ ?_ | fail) <;> (try refine ev_ ?_)) | with_reducible exact ti_)
      refine qb5i (af' := ⟨[(0, .ptr 0 0), (1, .fn g [] [.ptr 1 0]), (6, .row 2 1)], []⟩) (H' := [curE d', .blk [.ptr 0 0], .app 5 (encs ([] ++ [n]))]) ?_ (qbep [0, 1, 3] rfl (by simp) ?_ ?_ ?_)
      rotate_left
      all_goals (try simp only [← qe, List.nil_append, encs, List.length_nil])
      all_goals (try (refine ev_ ?_; (try with_reducible exact ti_)))
      all_goals (try (rw [qe, qo, qbb]; exact ⟨rfl, rfl⟩))
      subst h9
      have hta : (qf d' [59]).1.good := (qk _ _).1 j1
      have htr := (qk d' [59]).2.1
      have hne3 : ¬ [] ++ [n] = [] := by simp
      have hlen : ([] ++ [n]).length = 1 := by simp
      repeat' (first | refine vs_ ?_ | ((first | refine vr_ ?_ | refine qes j1.ok ?_ | refine a_Is ?_ | refine qcf hta.ok ?_ | (refine cs_ ?_ ?_ <;> intro hc) | refine cj_ ?_ | fail) <;> (try refine ev_ ?_)) | with_reducible exact ti_)
      ·have ht : (qf d' [59]).2 = false := by assumption
       rw [ht, Bool.false_and, if_neg (by simp)] at i3
       subst i3
       obtain rfl := hk2 (by simp)
       simp only [qbc (q9 hne3), qbd (q9 hne3), qx, hlen, ← qe]
       (refine ev_ ?_; (try with_reducible exact ti_))
       all_goals first | (rw [qe]; exact qo _ _) | exact ⟨rfl, rfl⟩ | rfl | (rw [qe, qo, qbb]; exact ⟨rfl, rfl⟩)
      ·have ht : (qf d' [59]).2 = true := by assumption
       have hi : isK (qf d' [59]).1 [125] = true := by assumption
       rw [ht, hi, Bool.true_and, Bool.not_true, if_neg (by simp)] at i3
       subst i3
       obtain rfl := hk2 (by simp)
       simp only [qbc (q9 hne3), qbd (q9 hne3), qx, hlen, ← qe]
       (refine ev_ ?_; (try with_reducible exact ti_))
       all_goals first | (rw [qe]; exact qo _ _) | exact ⟨rfl, rfl⟩ | rfl | (rw [qe, qo, qbb]; exact ⟨rfl, rfl⟩)
      ·have ht : (qf d' [59]).2 = true := by assumption
       have hi : isK (qf d' [59]).1 [125] = false := by assumption
       rw [ht, hi, Bool.true_and, Bool.not_false, if_pos rfl] at i3
       have htl := qc1 ht
       refine q8 (fu, (qf d' [59]).1, [] ++ [n]) [0, 1, 2] ⟨⟨hta, by simp only; omega, i3, by simp only; omega, by simp only [hlen]; omega⟩, by simp only; omega⟩ rfl (by simp) ?_ ?_ ?_
       all_goals simp only [qzh, qbc (q9 hne3), qbd (q9 hne3), qx, hlen, ← qe]
       all_goals (refine ev_ ?_; (try with_reducible exact ti_))
       all_goals first | (rw [qe]; exact qo _ _) | exact ⟨rfl, rfl⟩ | rfl | (rw [qe, qo, qbb]; exact ⟨rfl, rfl⟩)
     ·have hne := q9 h0
      simp only [qbd hne, qbc hne, qx]
      repeat' (first | refine vs_ ?_ | ((first | refine vr_ ?_ | refine qwf hclo ?_ | (refine cs_ ?_ ?_ <;> intro hc) | refine cj_ ?_ | fail) <;> (try refine ev_ ?_)) | with_reducible exact ti_)
      refine qb5i (af' := ⟨[(0, .ptr 0 0), (1, .fn g [] [.ptr 1 0]), (6, .row 2 (acc.length + 1))], []⟩) (H' := [curE d', .blk [.ptr 0 0], .app 5 (encs (acc ++ [n]))]) ?_ (qbep [0, 1, 4] rfl (by simp) ?_ ?_ ?_)
      rotate_left
      all_goals (try simp only [← qe, List.nil_append, encs, List.length_nil])
      all_goals (try (refine ev_ ?_; (try with_reducible exact ti_)))
      all_goals (try (rw [qe, qo, qbb]; exact ⟨rfl, rfl⟩))
      subst h9
      have hta : (qf d' [59]).1.good := (qk _ _).1 j1
      have htr := (qk d' [59]).2.1
      have hne3 : ¬ acc ++ [n] = [] := by simp
      have hlen : (acc ++ [n]).length = acc.length + 1 := by simp
      repeat' (first | refine vs_ ?_ | ((first | refine vr_ ?_ | refine qes j1.ok ?_ | refine a_Is ?_ | refine qcf hta.ok ?_ | (refine cs_ ?_ ?_ <;> intro hc) | refine cj_ ?_ | fail) <;> (try refine ev_ ?_)) | with_reducible exact ti_)
      ·have ht : (qf d' [59]).2 = false := by assumption
       rw [ht, Bool.false_and, if_neg (by simp)] at i3
       subst i3
       obtain rfl := hk2 (by simp)
       simp only [qbc (q9 hne3), qbd (q9 hne3), qx, hlen, ← qe]
       (refine ev_ ?_; (try with_reducible exact ti_))
       all_goals first | (rw [qe]; exact qo _ _) | exact ⟨rfl, rfl⟩ | rfl | (rw [qe, qo, qbb]; exact ⟨rfl, rfl⟩)
      ·have ht : (qf d' [59]).2 = true := by assumption
       have hi : isK (qf d' [59]).1 [125] = true := by assumption
       rw [ht, hi, Bool.true_and, Bool.not_true, if_neg (by simp)] at i3
       subst i3
       obtain rfl := hk2 (by simp)
       simp only [qbc (q9 hne3), qbd (q9 hne3), qx, hlen, ← qe]
       (refine ev_ ?_; (try with_reducible exact ti_))
       all_goals first | (rw [qe]; exact qo _ _) | exact ⟨rfl, rfl⟩ | rfl | (rw [qe, qo, qbb]; exact ⟨rfl, rfl⟩)
      ·have ht : (qf d' [59]).2 = true := by assumption
       have hi : isK (qf d' [59]).1 [125] = false := by assumption
       rw [ht, hi, Bool.true_and, Bool.not_false, if_pos rfl] at i3
       have htl := qc1 ht
       refine q8 (fu, (qf d' [59]).1, acc ++ [n]) [0, 1, 2] ⟨⟨hta, by simp only; omega, i3, by simp only; omega, by simp only [hlen]; omega⟩, by simp only; omega⟩ rfl (by simp) ?_ ?_ ?_
       all_goals simp only [qzh, qbc (q9 hne3), qbd (q9 hne3), qx, hlen, ← qe]
       all_goals (refine ev_ ?_; (try with_reducible exact ti_))
       all_goals first | (rw [qe]; exact qo _ _) | exact ⟨rfl, rfl⟩ | rfl | (rw [qe, qo, qbb]; exact ⟨rfl, rfl⟩)
 ·have hpa : qbp rd c = ((qi c [123]).1, [], false) := by rw [qbp, if_neg hw]
  rw [hpa] at hk1 hk2 ⊢
  obtain rfl := hk1 rfl
  repeat' (first | refine vs_ ?_ | ((first | refine vr_ ?_ | fail) <;> (try simp only [hw, go_sem, ↓reduceIte])) | ((first | (refine cs_ ?_ ?_ <;> intro hc) | refine cj_ ?_ | fail | refine qcf hg.ok ?_) <;> (try refine ev_ ?_)) | with_reducible exact ti_)
  exact ⟨rfl, rfl⟩
set_option maxRecDepth 4000

theorem qo4 {rd : K → R3} (hd : ∀ c, Mon c (rd c).1) (hl : ∀ c, (rd c).2.2 = true → rest (rd c).1 < rest c) : ∀ (f : Nat) (c : K) (acc : List N), (qcc rd f c acc).2.1.length ≤ acc.length + rest c
 | 0, c, acc => by simp [qcc]
 | f + 1, c, acc => by
   rw [qcc]
   split
   ·rename_i h
    have h1 := hl c h
    split
    ·have h2 := qo4 hd hl f (qf (rd c).1 [59]).1 (acc ++ [(rd c).2.1])
     have h3 := (qk (rd c).1 [59]).2.1
     simp only [List.length_append, List.length_cons, List.length_nil] at h2
     omega
    ·simp only [List.length_append, List.length_cons, List.length_nil]; omega
   ·simp
theorem qrm {rd : K → R3} (hd : ∀ c, Mon c (rd c).1) (hl : ∀ c, (rd c).2.2 = true → rest (rd c).1 < rest c) (c : K) : (qbp rd c).2.1.length ≤ rest c := by
 unfold qbp
 split
 ·have h1 := qo4 hd hl (rest (qi c [123]).1 + 1) (qi c [123]).1 []
  have h2 := (qd c [123]).2.1
  simp only [List.length_nil] at h1
  omega
 ·simp
theorem qqk {rd : K → R3} : ∀ (f : Nat) (c : K) (acc : List N), (qcc rd f c acc).2.2 = true → (qcc rd f c acc).2.1 ≠ []
 | 0, c, acc => fun h => by cases h
 | f + 1, c, acc => fun h => by
   rw [qcc] at h ⊢
   split at h
   ·rename_i h1
    rw [if_pos h1]
    split at h
    ·rename_i h2
     rw [if_pos h2]
     exact qqk f _ _ h
    ·rename_i h2
     rw [if_neg h2]
     simp
   ·cases h
theorem qom {rd : K → R3} {c : K} (h : (qbp rd c).2.2 = true) : (qbp rd c).2.1 ≠ [] := by
 unfold qbp at h ⊢
 split at h
 ·rename_i h1
  rw [if_pos h1]
  exact qqk _ _ _ h
 ·cases h
theorem qyp {rd : K → R3} {g : FuncId} {c : K} (h : qp2 rd g c) (h0 : (qbp rd c).2.1 = []) {L : List Ent} {Q : List Ent → VO → Prop} (hq : Q (curE (qbp rd c).1 :: .blk [.ptr 0 0] :: L) (.val (.tup [.nils, .bool (qbp rd c).2.2]))) :
 VApp Tryz.prog (curE c :: .blk [.ptr 0 0] :: L) (.fn 157 [] []) [.ptr 0 0, .fn g [] [.ptr 1 0]] Q :=
 qcd (first := []) (caps := []) (by
  simp only [List.nil_append, List.append_nil]
  refine qdj (H0 := [curE c, .blk [.ptr 0 0]]) (L := L) h (ql1 c) rfl ?_
  rintro H1 o ⟨rfl, rfl⟩
  rw [h0]
  exact ⟨rfl, ql1 _, rfl, hq⟩)
theorem qx0 {rd : K → R3} {g : FuncId} {c : K} (h : qp2 rd g c) (h0 : (qbp rd c).2.1 ≠ []) {L : List Ent} {Q : List Ent → VO → Prop}
 (hq : Q (curE (qbp rd c).1 :: .blk [.ptr 0 0] :: (L ++ [.app 5 (encs (qbp rd c).2.1)])) (.val (.tup [.row (L.length + 2) (qbp rd c).2.1.length, .bool (qbp rd c).2.2]))) :
 VApp Tryz.prog (curE c :: .blk [.ptr 0 0] :: L) (.fn 157 [] []) [.ptr 0 0, .fn g [] [.ptr 1 0]] Q :=
 qcd (first := []) (caps := []) (by
  simp only [List.nil_append, List.append_nil]
  have hne := q9 h0
  have hs : AV.rens (sg [0, 1]) [.ptr 0 0, .fn g [] [.ptr 1 0]] = [.ptr 0 0, .fn g [] [.ptr 1 0]] := rfl
  rw [← hs]
  have ha : AV.bds 2 [.ptr 0 0, .fn g [] [.ptr 1 0]] = true := rfl
  have napp_ren : ∀ σ : Nat → Nat, (Ent.app 5 (encs (qbp rd c).2.1)).ren σ = .app 5 (encs (qbp rd c).2.1) := fun σ => Ent.ren_same (m := 0) (fun i hi => by omega) _ (by simp [Ent.bd, qo])
  have hp : ∀ σ : Nat → Nat, σ 0 = 0 → (Ent.blk [.ptr 0 0]).ren σ = .blk [.ptr 0 0] := fun σ h => by simp [Ent.ren, AV.rens, AV.ren, h]
  refine qhu (H0 := [curE c, .blk [.ptr 0 0]]) [0, 1] h (by simp) (by simp) rfl ?_ ha ?_
  ·intro j e2 hj
   have hj2 : j < 2 := by have := (List.getElem?_eq_some_iff.1 hj).1; simpa using this
   have : j = 0 ∨ j = 1 := by omega
   rcases this with rfl | rfl
   ·simp only [List.getElem?_cons_zero, Option.some.injEq] at hj
    subst hj
    exact .inr ⟨qbi _ _, by rw [qc9]; rfl⟩
   ·simp only [List.getElem?_cons_succ, List.getElem?_cons_zero, Option.some.injEq] at hj
    subst hj
    exact .inr ⟨rfl, rfl⟩
  rintro H1 o ⟨rfl, rfl⟩
  have hq2 : (Ent.blk [.ptr 0 0]).ren (sg' [0, 1] (L.length + 1 + 1)) = .blk [.ptr 0 0] := hp _ rfl
  simp only [qbc hne, qbd hne, qx, List.length_cons, List.length_nil, List.take_succ_cons, List.take_zero, List.map_nil, qbw, List.drop_zero, List.drop_succ_cons, List.map_cons, qc9, napp_ren, hq2, VO.ren, AV.ren, AV.rens, List.set_cons_zero, List.set_cons_succ]
  exact hq)
def posZ (p : Int) : AV := .agg [.int .i64 0, .int .i64 p, .int .i64 0, .str [], .nils]
theorem qjt (p : Int) : AV.agg [.int .i64 0, .int .i64 p, .int .i64 0, .str [], .sl 5 []] = enc (posN p) := by simp only [posN, enc, encs]
theorem qsy (p e : N) : AV.agg [.int .i64 15, .int .i64 p.pos, .int .i64 0, .str [], .sl 5 [enc p, enc e]] = enc (altN p e) := by simp only [altN, enc, encs]
section
variable {rec : K → K × Option N} {b : Nat} (ih : ∀ c, c.good → rest c < b → qce Tryz.prog 116 (curE c) (curE (rec c).1) [.ptr 0 0] (resP (rec c).2))
include ih
theorem qbdy (c : K) (hg : c.good) (hr : rest c ≤ b) : VClo 158 c (ofO (qb8 rec c)).1 (ofO (qb8 rec c)).2 := by
 refine qp c0bm 2 (by simp) (by simp) ?_
 repeat' (first | refine vs_ ?_ | ((first | refine vr_ ?_ | refine qcs (qt3 ih c hg hr) rfl ?_ | (refine cs_ ?_ ?_ <;> intro hc) | refine cj_ ?_ | fail) <;> (try refine ev_ ?_)) | with_reducible exact ti_)
 exact ⟨rfl, rfl⟩
theorem q4d (c : K) (hg : c.good) (hr : rest c ≤ b) : VClo 159 c (qfg rec c).1 (qfg rec c).2 := by
 have hp := qbp1 (rest c + 2) c hg (by omega)
 have g1 : (qcz (rest c + 2) c).1.good := (qe0 _ c).1 hg
 have hr1 : rest (qcz (rest c + 2) c).1 ≤ b := by have := (qe0 (rest c + 2) c).2.1; omega
 refine qp c0bn 2 (by simp) (by simp) ?_
 unfold qfg
 generalize qcz (rest c + 2) c = r at *
 obtain ⟨d, o⟩ := r
 simp only at hp g1 hr1 ⊢
 have g2 : (qi d [45, 62]).1.good := (qd _ _).1 g1
 have hlt : (qi d [45, 62]).2 = true → rest (qi d [45, 62]).1 < b := fun h => by have := qh6 h; omega
 unfold altB altC
 cases o with
 | none =>
   repeat' (first | refine vs_ ?_ | ((first | refine vr_ ?_ | fail) <;> (try simp (disch := first | omega | (simp only [List.length_set, List.length_append, List.length_cons, List.length_nil]; done) | (simp only [List.length_set, List.length_append, List.length_cons, List.length_nil]; omega)) only [Option.isSome_none, Option.getD_none, go_sem, ↓reduceIte])) | ((first | (refine cs_ ?_ ?_ <;> intro hc) | refine cj_ ?_ | fail | refine qcs hp rfl ?_) <;> (try refine ev_ ?_)) | with_reducible exact ti_)
   all_goals (try rfl)
 | some p =>
   by_cases hw : (qi d [45, 62]).2 = true
   ·have hr := ih _ g2 (hlt hw)
    repeat' (first | refine vs_ ?_ | ((first | refine vr_ ?_ | fail) <;> (try simp (disch := first | omega | (simp only [List.length_set, List.length_append, List.length_cons, List.length_nil]; done) | (simp only [List.length_set, List.length_append, List.length_cons, List.length_nil]; omega)) only [hw, Option.isSome_some, Option.getD_some, go_sem, ↓reduceIte])) | ((first | (refine cs_ ?_ ?_ <;> intro hc) | refine cj_ ?_ | fail | refine qcs hp rfl ?_ | refine qcf g1.ok ?_ | refine qcs hr rfl ?_) <;> (try refine ev_ ?_)) | with_reducible exact ti_)
    all_goals first | (rw [qsy]; done) | (rw [qsy]; rfl) | (rw [qsy]; exact ⟨rfl, rfl⟩)
   ·repeat' (first | refine vs_ ?_ | ((first | refine vr_ ?_ | fail) <;> (try simp (disch := first | omega | (simp only [List.length_set, List.length_append, List.length_cons, List.length_nil]; done) | (simp only [List.length_set, List.length_append, List.length_cons, List.length_nil]; omega)) only [hw, Option.isSome_some, Option.getD_some, go_sem, ↓reduceIte])) | ((first | (refine cs_ ?_ ?_ <;> intro hc) | refine cj_ ?_ | fail | refine qcs hp rfl ?_ | refine qcf g1.ok ?_) <;> (try refine ev_ ?_)) | with_reducible exact ti_)
    all_goals (try rfl)
end
set_option maxRecDepth 4000

theorem qbnf (p : Int) (l : List N) (k : N) : AV.agg [.int .i64 26, .int .i64 p, .int .i64 0, .str [], .sl 5 (encs l ++ [enc k])] = enc (.mk 26 p 0 [] (l ++ [k])) := by simp only [enc, qe]
section
variable {rec : K → K × Option N} {b : Nat} (hm : ∀ c, Mon c (rec c).1) (ih : ∀ c, c.good → rest c < b → qce Tryz.prog 116 (curE c) (curE (rec c).1) [.ptr 0 0] (resP (rec c).2))
include hm ih
theorem qb9s (p : Int) (c : K) (hg : c.good) (hr : rest c ≤ b) : qce Tryz.prog 150 (curE c) (curE (qjd rec p c).1) [.ptr 0 0, posZ p] (resB (qjd rec p c).2) := by
 have hd : ∀ c, Mon c (ofO (qb8 rec c)).1 := fun c => qfs hm c
 have hl : ∀ c, (ofO (qb8 rec c)).2.2 = true → rest (ofO (qb8 rec c)).1 < rest c := fun c h => qks hm h
 have hS := q2e (g := 158) hd hl (fun c g r => qbdy ih c g r) c hg hr
 have hlen := qrm hd hl c
 have hne := @qom (fun c => ofO (qb8 rec c)) c
 have g1 : (qbp (fun c => ofO (qb8 rec c)) c).1.good := (qgt hd c).1 hg
 have hr1 : rest (qbp (fun c => ofO (qb8 rec c)) c).1 ≤ b := by have := (qgt hd c).2.1; omega
 have happ0 := @qyp _ _ _ hS
 have happ1 := @qx0 _ _ _ hS
 have hgr := hg.rest
 clear hS hd hl
 refine qp c0bi 1 (by simp) (by simp [posZ]) ?_
 unfold qjd posZ
 generalize qbp (fun c => ofO (qb8 rec c)) c = L at *
 obtain ⟨d, l, ok⟩ := L
 simp only at hlen hne g1 hr1 happ0 happ1
 have g2 : (qi d [105, 110]).1.good := (qd _ _).1 g1
 have hlt : (qi d [105, 110]).2 = true → rest (qi d [105, 110]).1 < b := fun h => by have := qh6 h; omega
 have hcap : qdq (l.length + 1) 64 := capN (by unfold rest at hlen; omega)
 unfold letB letC
 by_cases h0 : l = []
 ·subst h0
  have ok0 : ok = false := by cases ok with | false => rfl | true => exact absurd rfl (hne rfl)
  subst ok0
  repeat' (first | refine vs_ ?_ | ((first | refine vr_ ?_ | refine happ0 rfl ?_ | (refine cs_ ?_ ?_ <;> intro hc) | refine cj_ ?_ | fail) <;> (try refine ev_ ?_)) | with_reducible exact ti_)
  all_goals (try rw [qjt])
  all_goals (try exact ⟨rfl, rfl⟩)
 ·cases ok with
  | false =>
    repeat' (first | refine vs_ ?_ | ((first | refine vr_ ?_ | refine happ1 h0 ?_ | (refine cs_ ?_ ?_ <;> intro hc) | refine cj_ ?_ | fail) <;> (try refine ev_ ?_)) | with_reducible exact ti_)
    all_goals (try rw [qjt])
    all_goals (try exact ⟨rfl, rfl⟩)
  | true =>
    by_cases hw : (qi d [105, 110]).2 = true
    ·have hr := ih _ g2 (hlt hw)
     repeat' (first | refine vs_ ?_ | ((first | refine vr_ ?_ | fail) <;> (try simp only [hw, go_sem, ↓reduceIte])) | ((first | (refine cs_ ?_ ?_ <;> intro hc) | refine cj_ ?_ | fail | refine happ1 h0 ?_ | refine qcf g1.ok ?_ | refine qcs hr rfl ?_) <;> (try refine ev_ ?_)) | with_reducible exact ti_)
     all_goals (try rw [qbnf])
     all_goals exact ⟨by rw [qe, qo], rfl⟩
    ·repeat' (first | refine vs_ ?_ | ((first | refine vr_ ?_ | fail) <;> (try simp only [hw, go_sem, ↓reduceIte])) | ((first | (refine cs_ ?_ ?_ <;> intro hc) | refine cj_ ?_ | fail | refine happ1 h0 ?_ | refine qcf g1.ok ?_) <;> (try refine ev_ ?_)) | with_reducible exact ti_)
     all_goals (try rw [qjt])
     all_goals (try exact ⟨rfl, rfl⟩)
theorem q61 (p : Int) (c : K) (hg : c.good) (hr : rest c < b) : qce Tryz.prog 151 (curE c) (curE (qgr rec p c).1) [.ptr 0 0, posZ p] (resB (qgr rec p c).2) := by
 have hd : ∀ c, Mon c (qfg rec c).1 := fun c => qlt hm c
 have hl : ∀ c, (qfg rec c).2.2 = true → rest (qfg rec c).1 < rest c := fun c h => qss hm h
 have hx := ih c hg hr
 have g1 : (rec c).1.good := (hm c).1 hg
 have hr1 := (hm c).2.1
 refine qp c0bj 1 (by simp) (by simp [posZ]) ?_
 unfold qgr posZ
 generalize rec c = r0 at *
 obtain ⟨d0, o⟩ := r0
 simp only at g1 hr1 hx ⊢
 have g2 : (qi d0 [111, 102]).1.good := (qd _ _).1 g1
 have hr2 : rest (qi d0 [111, 102]).1 ≤ b := by have := (qd d0 [111, 102]).2.1; omega
 have hS := q2e (g := 159) hd hl (fun c g r => q4d ih c g r) (qi d0 [111, 102]).1 g2 hr2
 have hlen := qrm hd hl (qi d0 [111, 102]).1
 have happ0 := @qyp _ _ _ hS
 have happ1 := @qx0 _ _ _ hS
 have hgr := g2.rest
 clear hS hd hl
 unfold q35 q46
 cases o with
 | none =>
   repeat' (first | refine vs_ ?_ | ((first | refine vr_ ?_ | fail) <;> (try simp (disch := first | omega | (simp only [List.length_set, List.length_append, List.length_cons, List.length_nil]; done) | (simp only [List.length_set, List.length_append, List.length_cons, List.length_nil]; omega)) only [Option.isSome_none, Option.getD_none, go_sem, ↓reduceIte])) | ((first | (refine cs_ ?_ ?_ <;> intro hc) | refine cj_ ?_ | fail | refine qcs hx rfl ?_) <;> (try refine ev_ ?_)) | with_reducible exact ti_)
   all_goals (try rw [qjt])
   all_goals (try exact ⟨rfl, rfl⟩)
 | some x =>
   by_cases hw : (qi d0 [111, 102]).2 = true
   ·generalize qbp (qfg rec) (qi d0 [111, 102]).1 = L at *
    obtain ⟨d, l, ok⟩ := L
    simp only at hlen happ0 happ1 ⊢
    have hcap : qdq (1 + l.length) 64 := capN (by unfold rest at hlen; omega)
    by_cases h0 : l = []
    ·subst h0
     repeat' (first | refine vs_ ?_ | ((first | refine vr_ ?_ | fail) <;> (try simp (disch := first | omega | (simp only [List.length_set, List.length_append, List.length_cons, List.length_nil]; done) | (simp only [List.length_set, List.length_append, List.length_cons, List.length_nil]; omega)) only [hw, Option.isSome_some, Option.getD_some, go_sem, ↓reduceIte])) | ((first | (refine cs_ ?_ ?_ <;> intro hc) | refine cj_ ?_ | fail | refine qcs hx rfl ?_ | refine qcf g1.ok ?_ | refine happ0 rfl ?_) <;> (try refine ev_ ?_)) | with_reducible exact ti_)
     all_goals (try simp only [enc, encs])
    ·have hnl : ¬ l.length = 0 := fun h => h0 (List.length_eq_zero_iff.1 h)
     repeat' (first | refine vs_ ?_ | ((first | refine vr_ ?_ | fail) <;> (try simp (disch := first | omega | (simp only [List.length_set, List.length_append, List.length_cons, List.length_nil]; done) | (simp only [List.length_set, List.length_append, List.length_cons, List.length_nil]; omega)) only [hw, hnl, hcap, Option.isSome_some, Option.getD_some, go_sem, ↓reduceIte])) | ((first | (refine cs_ ?_ ?_ <;> intro hc) | refine cj_ ?_ | fail | refine qcs hx rfl ?_ | refine qcf g1.ok ?_ | refine happ1 h0 ?_) <;> (try refine ev_ ?_)) | with_reducible exact ti_)
     have hcm : l.length + 1 = 1 + l.length := Nat.add_comm _ _
     simp only [hcm, if_true, enc, encs, AV.bd, AV.bds, qo0, qo, Bool.and_true, and_self]
   ·repeat' (first | refine vs_ ?_ | ((first | refine vr_ ?_ | fail) <;> (try simp (disch := first | omega | (simp only [List.length_set, List.length_append, List.length_cons, List.length_nil]; done) | (simp only [List.length_set, List.length_append, List.length_cons, List.length_nil]; omega)) only [hw, Option.isSome_some, Option.getD_some, go_sem, ↓reduceIte])) | ((first | (refine cs_ ?_ ?_ <;> intro hc) | refine cj_ ?_ | fail | refine qcs hx rfl ?_ | refine qcf g1.ok ?_) <;> (try refine ev_ ?_)) | with_reducible exact ti_)
    all_goals (try rw [qjt])
    all_goals (try exact ⟨rfl, rfl⟩)
def q6n (p : Int) (x : Nat × K × List N) : AF × List Ent :=
 (⟨[(0, .ptr 0 0), (3, .ptr 1 0), (4, .ptr 2 0), (11, .agg (ifsW.map AV.str)), (12, .int .i64 x.1)], []⟩,
   curE x.2.1 :: .blk [.int .i64 28, .int .i64 p, .int .i64 0, .str [], accV 3 (encs x.2.2)] :: .blk [.int .i64 0, .int .i64 0, .int .i64 0, .str [], .nils] :: accE 5 (encs x.2.2))
theorem qbrb (p : Int) (c : K) (hg : c.good) (hr : rest c < b) : qce Tryz.prog 152 (curE c) (curE (qeq rec p ifsW c []).1) [.ptr 0 0, posZ p] (resB (qeq rec p ifsW c []).2) := by
 refine qp c0bk 1 (by simp) (by simp [posZ]) ?_
 unfold posZ
 generalize htg : qeq rec p ifsW c [] = tg
 have hW : AV.agg (ifsW.map AV.str) = .agg [.str [], .str [116, 104, 101, 110], .str [101, 108, 115, 101]] := rfl
 repeat' (first | refine vs_ ?_ | ((first | refine vr_ ?_ | (refine cs_ ?_ ?_ <;> intro hc) | refine cj_ ?_ | simp (disch := omega) only [qh, qs]) <;> (try refine ev_ ?_)) | with_reducible exact ti_)
 refine qbm (S := Nat × K × List N) (fun x => x.1 ≤ 3 ∧ x.2.1.good ∧ rest x.2.1 < b ∧ qeq rec p (ifsW.drop x.1) x.2.1 x.2.2 = tg ∧ x.2.2.length = x.1)
  (q6n p) (fun x => 3 - x.1) ?_ ?_
 ·refine q8 (0, c, []) [0, 1, 2] ⟨by simp, hg, hr, htg, rfl⟩ rfl (by simp) ?_ ?_ ?_
  all_goals simp only [q6n, hW, encs, qr, qt]
  all_goals (refine ev_ ?_; (try with_reducible exact ti_))
 ·rintro ⟨i, d, acc⟩ ⟨i1, i2, i3, i4, i5⟩
  simp only at i1 i2 i3 i4 i5
  unfold q6n
  by_cases hlt : i < 3
  ·have hil : (i : Int) < 3 := by omega
   have hd := qst (ls := ifsW) (i := i) (by simpa [ifsW] using hlt)
   rw [hd, qeq] at i4
   have hw0 : ifsW.getD i [] = [] ↔ i = 0 := by
    have : i = 0 ∨ i = 1 ∨ i = 2 := by omega
    rcases this with rfl | rfl | rfl <;> simp [ifsW]
   have hln : (ifsW.map AV.str).length = 3 := rfl
   have hln2 : i < ifsW.length := hlt
   have hget : (ifsW.map AV.str).getD i .junk = .str (ifsW.getD i []) := qzc hln2
   clear hd
   generalize ifsW.getD i [] = w at *
   have hab : ∀ k, AV.bds k (ifsW.map AV.str) = true := fun k => qwi k _
   have har : ∀ σ : Nat → Nat, AV.rens σ (ifsW.map AV.str) = ifsW.map AV.str := fun σ => q3c σ _
   generalize hW2 : ifsW.map AV.str = aw at *
   by_cases h0 : i = 0
   ·subst h0
    have hw : w = [] := hw0.2 rfl
    have ha : acc = [] := List.length_eq_zero_iff.1 i5
    subst hw ha
    have hx := ih d i2 i3
    have g1 : (rec d).1.good := (hm d).1 i2
    have hr1 := (hm d).2.1
    rw [ifsK, if_pos rfl] at i4
    simp only [if_true] at i4
    generalize rec d = r at *
    obtain ⟨d', o⟩ := r
    simp only at g1 hr1 hx i4
    have hcap : qdq 1 64 := capN (by omega)
    simp only [encs, qr, qt]
    cases o with
    | none =>
      rw [if_neg (by simp)] at i4
      subst i4
      repeat' (first | refine vs_ ?_ | ((first | refine vr_ ?_ | fail) <;> (try simp (disch := first | omega | (simp only [List.length_set, List.length_append, List.length_cons, List.length_nil]; done) | (simp only [List.length_set, List.length_append, List.length_cons, List.length_nil]; omega)) only [hil, hget, hln, ne_eq, not_true_eq_false, not_false_eq_true, decide_true, decide_false, Option.isSome_none, Option.isSome_some, Option.getD_none, Option.getD_some, go_sem, ↓reduceIte])) | ((first | (refine cs_ ?_ ?_ <;> intro hc) | refine cj_ ?_ | simp (disch := omega) only [qh, qs] | refine qcs hx rfl ?_) <;> (try refine ev_ ?_)) | with_reducible exact ti_)
      all_goals first | (simp only [enc, encs]; done) | (exfalso; omega)
    | some n =>
      rw [if_pos (by rfl)] at i4
      repeat' (first | refine vs_ ?_ | ((first | refine vr_ ?_ | fail) <;> (try simp (disch := first | omega | (simp only [List.length_set, List.length_append, List.length_cons, List.length_nil]; done) | (simp only [List.length_set, List.length_append, List.length_cons, List.length_nil]; omega)) only [hil, hget, hln, ne_eq, not_true_eq_false, not_false_eq_true, decide_true, decide_false, Option.isSome_none, Option.isSome_some, Option.getD_none, Option.getD_some, go_sem, ↓reduceIte])) | ((first | (refine cs_ ?_ ?_ <;> intro hc) | refine cj_ ?_ | simp (disch := omega) only [qh, qs] | refine qcs hx rfl ?_) <;> (try refine ev_ ?_)) | with_reducible exact ti_)
      ·refine q8 (1, d', [n]) [0, 1, 2, 4] ⟨⟨by simp, g1, by simp only; omega, by simpa using i4, rfl⟩, by simp⟩ rfl (by simp) ?_ ?_ ?_
       all_goals simp only [q6n, hW2, encs, qby, qbx]
       all_goals (refine ev_ ?_; (try with_reducible exact ti_))
       all_goals (try simp only [hab, har, show IntKind.i64.wrap (0 + 1) = ((1 : Nat) : Int) by rfl, and_self, true_and])
       all_goals (try rfl)
      ·exfalso; omega
   ·have hwn : (w = []) = False := eq_false (fun h => h0 (hw0.1 h))
    have ha : acc ≠ [] := fun h => h0 (by rw [← i5, h]; rfl)
    have hne := q9 ha
    have hik : ifsK d w = qi d w := by rw [ifsK, if_neg (fun h => h0 (hw0.1 h))]
    rw [hik] at i4
    have g1 : (qi d w).1.good := (qd d w).1 i2
    have hr1 := (qd d w).2.1
    have hx := ih (qi d w).1 g1 (by omega)
    have g2 : (rec (qi d w).1).1.good := (hm _).1 g1
    have hr2 := (hm (qi d w).1).2.1
    have hcap : qdq (acc.length + 1) 64 := capN (by omega)
    simp only [qbd hne, qbc hne, qx]
    by_cases hwt : (qi d w).2 = true
    ·rw [if_pos hwt] at i4
     generalize rec (qi d w).1 = r at *
     obtain ⟨d', o⟩ := r
     simp only at g2 hr2 hx i4
     cases o with
     | none =>
       rw [if_neg (by simp)] at i4
       subst i4
       repeat' (first | refine vs_ ?_ | ((first | refine vr_ ?_ | fail) <;> (try simp (disch := first | omega | (simp only [List.length_set, List.length_append, List.length_cons, List.length_nil]; done) | (simp only [List.length_set, List.length_append, List.length_cons, List.length_nil]; omega)) only [hil, hwn, Nat.mul_one, hget, hln, ne_eq, not_true_eq_false, not_false_eq_true, decide_true, decide_false, Option.isSome_none, Option.isSome_some, Option.getD_none, Option.getD_some, hwt, go_sem, ↓reduceIte])) | ((first | (refine cs_ ?_ ?_ <;> intro hc) | refine cj_ ?_ | simp (disch := omega) only [qh, qs] | refine qcs hx rfl ?_ | refine qcf i2.ok ?_) <;> (try refine ev_ ?_)) | with_reducible exact ti_)
       all_goals (simp only [enc, encs])
     | some n =>
       rw [if_pos (by rfl)] at i4
       repeat' (first | refine vs_ ?_ | ((first | refine vr_ ?_ | fail) <;> (try simp (disch := first | omega | (simp only [List.length_set, List.length_append, List.length_cons, List.length_nil]; done) | (simp only [List.length_set, List.length_append, List.length_cons, List.length_nil]; omega)) only [hil, hwn, Nat.mul_one, hget, hln, ne_eq, not_true_eq_false, not_false_eq_true, decide_true, decide_false, Option.isSome_none, Option.isSome_some, Option.getD_none, Option.getD_some, hwt, go_sem, ↓reduceIte])) | ((first | (refine cs_ ?_ ?_ <;> intro hc) | refine cj_ ?_ | simp (disch := omega) only [qh, qs] | refine qcs hx rfl ?_ | refine qcf i2.ok ?_) <;> (try refine ev_ ?_)) | with_reducible exact ti_)
       refine q8 (i + 1, d', acc ++ [n]) [0, 1, 2, 5] ⟨⟨by simp only; omega, g2, by simp only; omega, by simpa using i4, by simp [i5]⟩, by simp only; omega⟩ rfl (by simp) ?_ ?_ ?_
       all_goals simp only [q6n, hW2, ← qe, qbs, qbr]
       all_goals (refine ev_ ?_; (try with_reducible exact ti_))
       all_goals (try simp only [hab, har, and_self, true_and])
       all_goals (try (rw [qe, qo, qbb]; exact ⟨rfl, rfl⟩))
       all_goals (try (rw [qs (by unfold maxLen; omega)]))
    ·rw [if_neg hwt] at i4
     subst i4
     repeat' (first | refine vs_ ?_ | ((first | refine vr_ ?_ | fail) <;> (try simp (disch := first | omega | (simp only [List.length_set, List.length_append, List.length_cons, List.length_nil]; done) | (simp only [List.length_set, List.length_append, List.length_cons, List.length_nil]; omega)) only [hil, hwn, Nat.mul_one, hget, hln, ne_eq, not_true_eq_false, not_false_eq_true, decide_true, decide_false, Option.isSome_none, Option.isSome_some, Option.getD_none, Option.getD_some, hwt, go_sem, ↓reduceIte])) | ((first | (refine cs_ ?_ ?_ <;> intro hc) | refine cj_ ?_ | simp (disch := omega) only [qh, qs] | refine qcf i2.ok ?_) <;> (try refine ev_ ?_)) | with_reducible exact ti_)
     all_goals (simp only [enc, encs])
  ·obtain rfl : i = 3 := by omega
   have hil : ¬ (3 : Int) < 3 := by omega
   have ha : acc ≠ [] := fun h => by rw [h] at i5; cases i5
   have hne := q9 ha
   rw [show ifsW.drop 3 = [] from rfl, qeq] at i4
   subst i4
   simp only [qbd hne, qbc hne, qx]
   repeat' (first | refine vs_ ?_ | ((first | refine vr_ ?_ | fail) <;> (try simp only [hil, go_sem, ↓reduceIte])) | ((first | (refine cs_ ?_ ?_ <;> intro hc) | refine cj_ ?_ | simp (disch := omega) only [qh, qs]) <;> (try refine ev_ ?_)) | with_reducible exact ti_)
   all_goals first | (simp only [enc, encs]; done) | (exfalso; omega) | skip
theorem qbhk (c : K) (hg : c.good) (hr : rest c ≤ b) : qce Tryz.prog 139 (curE c) (curE (qe1 rec c).1) [.ptr 0 0] (resB (qe1 rec c).2) := by
 have g1 : (qf c [92]).1.good := (qk _ _).1 hg
 have g2 : (qf c [108, 101, 116]).1.good := (qk _ _).1 hg
 have g3 : (qf c [99, 97, 115, 101]).1.good := (qk _ _).1 hg
 have g4 : (qf c [105, 102]).1.good := (qk _ _).1 hg
 refine qp c0bl 1 (by simp) (by simp) ?_
 unfold qe1
 by_cases t1 : (qf c [92]).2 = true
 ·rw [if_pos t1]
  have l1 := qc1 t1
  by_cases hk : (qq (qf c [92]).1).kind = 1
  ·rw [if_pos hk]
   have hl := qu4 ih [45, 62] (rest (qf c [92]).1 + 1) _ g1 (by omega) (Nat.lt_succ_self _)
   repeat' (first | refine vs_ ?_ | ((first | refine vrr_ ?_ | fail) <;> (try simp only [t1, hk, ne_eq, not_true_eq_false, decide_false, go_sem, ↓reduceIte])) | ((first | (refine cs_ ?_ ?_ <;> intro hc) | refine cj_ ?_ | fail | refine qb6 ?_ | refine qes hg.ok ?_ | refine ql4 hl rfl ?_) <;> (try refine ev_ ?_)) | with_reducible exact ti_)
  ·rw [if_neg hk]
   repeat' (first | refine vs_ ?_ | ((first | refine vrr_ ?_ | fail) <;> (try simp only [t1, hk, ne_eq, not_false_eq_true, decide_true, go_sem, ↓reduceIte])) | ((first | (refine cs_ ?_ ?_ <;> intro hc) | refine cj_ ?_ | fail | refine qb6 ?_ | refine qes hg.ok ?_ | refine qg4 ?_) <;> (try refine ev_ ?_)) | with_reducible exact ti_)
   rw [qjt]
 ·have t1f : (qf c [92]).2 = false := by simpa using t1
  have e1 := qc2 t1f
  rw [if_neg t1]
  by_cases t2 : (qf c [108, 101, 116]).2 = true
  ·rw [if_pos t2]
   have l2 := qc1 t2
   have hl := qb9s hm ih (qq c).pos _ g2 (by omega)
   unfold posZ at hl
   repeat' (first | refine vs_ ?_ | ((first | refine vrr_ ?_ | fail) <;> (try simp only [t1f, e1, t2, go_sem, ↓reduceIte])) | ((first | (refine cs_ ?_ ?_ <;> intro hc) | refine cj_ ?_ | fail | refine qb6 ?_ | refine qes hg.ok ?_ | refine ql4 hl rfl ?_) <;> (try refine ev_ ?_)) | with_reducible exact ti_)
  ·have t2f : (qf c [108, 101, 116]).2 = false := by simpa using t2
   have e2 := qc2 t2f
   rw [if_neg t2]
   by_cases t3 : (qf c [99, 97, 115, 101]).2 = true
   ·rw [if_pos t3]
    have l2 := qc1 t3
    have hl := q61 hm ih (qq c).pos _ g3 (by omega)
    unfold posZ at hl
    repeat' (first | refine vs_ ?_ | ((first | refine vrr_ ?_ | fail) <;> (try simp only [t1f, e1, t2f, e2, t3, go_sem, ↓reduceIte])) | ((first | (refine cs_ ?_ ?_ <;> intro hc) | refine cj_ ?_ | fail | refine qb6 ?_ | refine qes hg.ok ?_ | refine ql4 hl rfl ?_) <;> (try refine ev_ ?_)) | with_reducible exact ti_)
   ·have t3f : (qf c [99, 97, 115, 101]).2 = false := by simpa using t3
    have e3 := qc2 t3f
    rw [if_neg t3]
    by_cases t4 : (qf c [105, 102]).2 = true
    ·rw [if_pos t4]
     have l2 := qc1 t4
     have hl := qbrb hm ih (qq c).pos _ g4 (by omega)
     unfold posZ at hl
     repeat' (first | refine vs_ ?_ | ((first | refine vrr_ ?_ | fail) <;> (try simp only [t1f, e1, t2f, e2, t3f, e3, t4, go_sem, ↓reduceIte])) | ((first | (refine cs_ ?_ ?_ <;> intro hc) | refine cj_ ?_ | fail | refine qb6 ?_ | refine qes hg.ok ?_ | refine ql4 hl rfl ?_) <;> (try refine ev_ ?_)) | with_reducible exact ti_)
    ·have t4f : (qf c [105, 102]).2 = false := by simpa using t4
     have e4 := qc2 t4f
     rw [if_neg t4]
     have hl := qbdn hm ih _ hg hr
     repeat' (first | refine vs_ ?_ | ((first | refine vrr_ ?_ | fail) <;> (try simp only [t1f, e1, t2f, e2, t3f, e3, t4f, e4, go_sem, ↓reduceIte])) | ((first | (refine cs_ ?_ ?_ <;> intro hc) | refine cj_ ?_ | fail | refine qb6 ?_ | refine qes hg.ok ?_ | refine ql4 hl rfl ?_) <;> (try refine ev_ ?_)) | with_reducible exact ti_)
end
end Go.Proofs.YtfjbmjplnmaclaaGreat
