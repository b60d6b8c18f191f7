/- Texts of this proof, joined. -/
import Derived.Test.YtmekebfgmjaenaaGreatEbc

/- expressions: what is read (plain) -/
namespace Go.Proofs.YtmekebfgmjaenaaGreat
open Go Go.RowKit Go.V
set_option linter.unusedVariables false
set_option linter.unusedSimpArgs false

def qiu (c : K) : Option N :=
  if (qbd c).kind = 1 then some (qh1 c 21 [])
  else if (qbd c).kind = 2 then some (qh1 c 22 [])
  else if (qbd c).kind = 3 then some (.mk 23 (qbd c).pos (qbd c).num [] [])
  else none
def begE (c : K) : Bool := (qiu c).isSome || isK c [40]
def qbl (rec : K → K × Option N) (c : K) : K × Option N :=
  if (qiu c).isSome = true then (q9 c, qiu c)
  else if isK c [40] = true then
    if (qj c).2 = true then
      if (rec (q9 (qj c).1)).2.isSome = true then
        if (qv (rec (q9 (qj c).1)).1 [41]).2 = true then (qch (qv (rec (q9 (qj c).1)).1 [41]).1, (rec (q9 (qj c).1)).2)
        else ((qv (rec (q9 (qj c).1)).1 [41]).1, none)
      else ((rec (q9 (qj c).1)).1, none)
    else ((qj c).1, none)
  else (qe6 c 5, none)
/-- A tree, and whether it is one. -/
abbrev R3 := K × N × Bool
def ofO (r : K × Option N) : R3 := (r.1, r.2.getD N0, r.2.isSome)
def toO (r : R3) : K × Option N := (r.1, if r.2.2 = true then some r.2.1 else none)
def appN (n k : N) : N := .mk 24 n.pos 0 [] [n, k]
def qfj (rec : K → K × Option N) : Nat → K → N → R3
  | 0, c, n => (c, n, false)
  | f + 1, c, n =>
    if begE c = true then
      if (qbl rec c).2.isSome = true then qfj rec f (qbl rec c).1 (appN n ((qbl rec c).2.getD N0))
      else ((qbl rec c).1, appN n ((qbl rec c).2.getD N0), false)
    else (c, n, true)
def qg7 (rec : K → K × Option N) (c : K) : R3 :=
  if (qbl rec c).2.isSome = true then qfj rec (rest (qbl rec c).1 + 1) (qbl rec c).1 ((qbl rec c).2.getD N0)
  else ((qbl rec c).1, (qbl rec c).2.getD N0, false)
def lamN (t : T) (n : N) : N := .mk 25 t.pos 0 t.text [n]
def qcj (rec : K → K × Option N) (x : List UInt8) : Nat → K → R3
  | 0, c => (c, N0, false)
  | f + 1, c =>
    if (qbd c).kind = 1 then ((qcj rec x f (q9 c)).1, lamN (qbd c) (qcj rec x f (q9 c)).2.1, (qcj rec x f (q9 c)).2.2)
    else if (qv c x).2 = true then ofO (rec (qv c x).1)
    else ((qv c x).1, N0, false)
def qm4 (k : Int) (t : T) (n : N) : N := .mk k t.pos 0 t.text [n]
def qcd (rec : K → K × Option N) (c : K) : K × Option N :=
  if (qbp c 1).2 = true then
    if (qt (qbp c 1).1 [58, 58]).2 = true then
      ((qe4 (rest (qt (qbp c 1).1 [58, 58]).1 + 2) (qt (qbp c 1).1 [58, 58]).1).1, (qe4 (rest (qt (qbp c 1).1 [58, 58]).1 + 2) (qt (qbp c 1).1 [58, 58]).1).2.map (qm4 32 (qis c 1)))
    else ((qcj rec [61] (rest (qbp c 1).1 + 1) (qbp c 1).1).1, (toO (qcj rec [61] (rest (qbp c 1).1 + 1) (qbp c 1).1)).2.map (qm4 31 (qis c 1)))
  else ((qbp c 1).1, none)
/-- Things of a kind with ; between, and } behind them. -/
abbrev RL := K × List N × Bool
def qb7 (rd : K → R3) : Nat → K → List N → RL
  | 0, c, _ => (c, [], false)
  | f + 1, c, acc =>
    if (rd c).2.2 = true then
      if ((qt (rd c).1 [59]).2 && !isK (qt (rd c).1 [59]).1 [125]) = true then qb7 rd f (qt (rd c).1 [59]).1 (acc ++ [(rd c).2.1])
      else ((qv (qt (rd c).1 [59]).1 [125]).1, acc ++ [(rd c).2.1], (qv (qt (rd c).1 [59]).1 [125]).2)
    else ((rd c).1, [], false)
def qbr (rd : K → R3) (c : K) : RL :=
  if (qv c [123]).2 = true then qb7 rd (rest (qv c [123]).1 + 1) (qv c [123]).1 [] else ((qv c [123]).1, [], false)
def posN (p : Int) : N := .mk 0 p 0 [] []
def letC (rec : K → K × Option N) (p : Int) (l : List N) (w : K × Bool) : R3 :=
  if w.2 = true then ((rec w.1).1, .mk 26 p 0 [] (l ++ [(rec w.1).2.getD N0]), (rec w.1).2.isSome) else (w.1, posN p, false)
def letB (rec : K → K × Option N) (p : Int) (l : RL) : R3 :=
  if l.2.2 = true then letC rec p l.2.1 (qv l.1 [105, 110]) else (l.1, posN p, false)
def qhz (rec : K → K × Option N) (p : Int) (c : K) : R3 := letB rec p (qbr (fun c => ofO (qcd rec c)) c)
def altN (p e : N) : N := .mk 15 p.pos 0 [] [p, e]
def altC (rec : K → K × Option N) (p : N) (w : K × Bool) : R3 :=
  if w.2 = true then ((rec w.1).1, altN p ((rec w.1).2.getD N0), (rec w.1).2.isSome) else (w.1, p, false)
def altB (rec : K → K × Option N) (r : K × Option N) : R3 :=
  if r.2.isSome = true then altC rec (r.2.getD N0) (qv r.1 [45, 62]) else (r.1, r.2.getD N0, false)
def qeu (rec : K → K × Option N) (c : K) : R3 := altB rec (qcu (rest c + 2) c)
def qy5 (p : Int) (x : N) (l : RL) : R3 := (l.1, .mk 27 p 0 [] (x :: l.2.1), l.2.2)
def qzx (rec : K → K × Option N) (p : Int) (x : N) (w : K × Bool) : R3 :=
  if w.2 = true then qy5 p x (qbr (qeu rec) w.1) else (w.1, posN p, false)
def qf0 (rec : K → K × Option N) (p : Int) (c : K) : R3 :=
  if (rec c).2.isSome = true then qzx rec p ((rec c).2.getD N0) (qv (rec c).1 [111, 102]) else ((rec c).1, posN p, false)
def ifsK (c : K) (w : List UInt8) : K × Bool := if w = [] then (c, true) else qv c w
def qea (rec : K → K × Option N) (p : Int) : List (List UInt8) → K → List N → R3
  | [], c, acc => (c, .mk 28 p 0 [] acc, true)
  | w :: r, c, acc =>
    if (ifsK c w).2 = true then
      if (rec (ifsK c w).1).2.isSome = true then qea rec p r (rec (ifsK c w).1).1 (acc ++ [(rec (ifsK c w).1).2.getD N0])
      else ((rec (ifsK c w).1).1, .mk 28 p 0 [] acc, false)
    else ((ifsK c w).1, .mk 28 p 0 [] acc, false)
def ifsW : List (List UInt8) := [[], [116, 104, 101, 110], [101, 108, 115, 101]]
def qeg (rec : K → K × Option N) (c : K) : R3 :=
  if (qt c [92]).2 = true then
    if (qbd (qt c [92]).1).kind = 1 then qcj rec [45, 62] (rest (qt c [92]).1 + 1) (qt c [92]).1
    else (qe6 (qt c [92]).1 5, posN (qbd c).pos, false)
  else if (qt c [108, 101, 116]).2 = true then qhz rec (qbd c).pos (qt c [108, 101, 116]).1
  else if (qt c [99, 97, 115, 101]).2 = true then qf0 rec (qbd c).pos (qt c [99, 97, 115, 101]).1
  else if (qt c [105, 102]).2 = true then qea rec (qbd c).pos ifsW (qt c [105, 102]).1 []
  else qg7 rec c
def qgf : Nat → K → K × Option N
  | 0, c => (c, none)
  | f + 1, c =>
    if (qj c).2 = true then (qch (qeg (qgf f) (qj c).1).1, (toO (qeg (qgf f) (qj c).1)).2)
    else ((qj c).1, none)

theorem ql2 {c : K} (h : (qiu c).isSome = true) : (qbd c).kind ≠ 0 := by
  unfold qiu at h
  split at h
  · omega
  · split at h
    · omega
    · split at h
      · omega
      · cases h
theorem qu4 {c : K} (h : begE c = true) : (qbd c).kind ≠ 0 := by
  simp only [begE, Bool.or_eq_true] at h
  rcases h with h | h
  · exact ql2 h
  · exact qdo h
theorem qem {c : K} {x : List UInt8} (h : (qt c x).2 = true) : rest (qt c x).1 < rest c := by
  unfold qt at h ⊢
  split at h
  · rename_i h1
    rw [if_pos h1]
    have := qbo (qdo h1)
    simp only; omega
  · cases h
theorem qg0 {c : K} {x : List UInt8} (h : (qv c x).2 = true) : rest (qv c x).1 < rest c := by
  unfold qv at h ⊢
  split at h
  · rename_i h1
    rw [if_pos h1]
    have := qbo (qdo h1)
    simp only; omega
  · cases h
theorem quc {c : K} (h : (qbp c 1).2 = true) : rest (qbp c 1).1 < rest c := by
  obtain ⟨h1, h2⟩ := qk2 h
  rw [(qr8 h).1]
  have := qbo (c := c) (by omega)
  simp only; omega
section
variable {rec : K → K × Option N} (hm : ∀ c, Mon c (rec c).1)
include hm
theorem qc7 (c : K) : Mon c (qbl rec c).1 := by
  unfold qbl
  split
  · exact qbs c
  · split
    · split
      · have h1 := ((qx c).trans (qbs _)).trans (hm _)
        split
        · split
          · exact (h1.trans (qq _ _)).trans (qbw _)
          · exact h1.trans (qq _ _)
        · exact h1
      · exact qx c
    · exact qfk c 5
theorem qi6 {c : K} (h : (qbl rec c).2.isSome = true) : rest (qbl rec c).1 < rest c := by
  unfold qbl at h ⊢
  split at h
  · rename_i hl
    rw [if_pos hl]
    have := qbo (ql2 hl)
    simp only; omega
  · rename_i hl
    rw [if_neg hl]
    split at h
    · rename_i hk
      rw [if_pos hk]
      split at h
      · rename_i he
        rw [if_pos he]
        have hp := qbo (c := (qj c).1) (by rw [qeo he]; exact qdo hk)
        have h0 := (qx c).2.1
        have h1 := (hm (q9 (qj c).1)).2.1
        split at h
        · rename_i hr
          rw [if_pos hr]
          have h2 := (qq (rec (q9 (qj c).1)).1 [41]).2.1
          split at h
          · rename_i hw
            rw [if_pos hw]
            have h3 := (qbw (qv (rec (q9 (qj c).1)).1 [41]).1).2.1
            simp only; omega
          · cases h
        · cases h
      · cases h
    · cases h
theorem qoy : ∀ (f : Nat) (c : K) (n : N), Mon c (qfj rec f c n).1
  | 0, c, n => Mon.refl c
  | f + 1, c, n => by
    rw [qfj]
    split
    · split
      · exact (qc7 hm c).trans (qoy f _ _)
      · exact qc7 hm c
    · exact Mon.refl c
theorem qyv (c : K) : Mon c (qg7 rec c).1 := by
  unfold qg7
  split
  · exact (qc7 hm c).trans (qoy hm _ _ _)
  · exact qc7 hm c
theorem qib (x : List UInt8) : ∀ (f : Nat) (c : K), Mon c (qcj rec x f c).1
  | 0, c => Mon.refl c
  | f + 1, c => by
    rw [qcj]
    split
    · exact (qbs c).trans (qib x f _)
    · split
      · exact (qq c x).trans (hm _)
      · exact qq c x
theorem qfu (c : K) : Mon c (qcd rec c).1 := by
  unfold qcd
  split
  · split
    · exact ((qcx c 1).trans (q8 _ _)).trans (qki _ _)
    · exact (qcx c 1).trans (qib hm _ _ _)
  · exact qcx c 1
theorem qmg {c : K} (h : (qcd rec c).2.isSome = true) : rest (qcd rec c).1 < rest c := by
  unfold qcd at h ⊢
  split at h
  · rename_i h1
    rw [if_pos h1]
    have h2 := quc h1
    split
    · have h3 := ((q8 (qbp c 1).1 [58, 58]).trans (qki (rest (qt (qbp c 1).1 [58, 58]).1 + 2) _)).2.1
      simp only; omega
    · have h3 := (qib hm [61] (rest (qbp c 1).1 + 1) (qbp c 1).1).2.1
      simp only; omega
  · cases h
omit hm in
theorem qmo {rd : K → R3} (hd : ∀ c, Mon c (rd c).1) : ∀ (f : Nat) (c : K) (acc : List N), Mon c (qb7 rd f c acc).1
  | 0, c, acc => Mon.refl c
  | f + 1, c, acc => by
    rw [qb7]
    split
    · split
      · exact ((hd c).trans (q8 _ _)).trans (qmo hd f _ _)
      · exact ((hd c).trans (q8 _ _)).trans (qq _ _)
    · exact hd c
omit hm in
theorem qf2 {rd : K → R3} (hd : ∀ c, Mon c (rd c).1) (c : K) : Mon c (qbr rd c).1 := by
  unfold qbr
  split
  · exact (qq c _).trans (qmo hd _ _ _)
  · exact qq c _
theorem qzq (p : Int) (c : K) : Mon c (qhz rec p c).1 := by
  unfold qhz letB letC
  have h := qf2 (rd := fun c => ofO (qcd rec c)) (fun c => qfu hm c) c
  split
  · split
    · exact (h.trans (qq _ _)).trans (hm _)
    · exact h.trans (qq _ _)
  · exact h
theorem qj1 (c : K) : Mon c (qeu rec c).1 := by
  unfold qeu altB altC
  have h := qek (rest c + 2) c
  split
  · split
    · exact (h.trans (qq _ _)).trans (hm _)
    · exact h.trans (qq _ _)
  · exact h
theorem qof {c : K} (h : (qeu rec c).2.2 = true) : rest (qeu rec c).1 < rest c := by
  unfold qeu altB altC at h ⊢
  have h1 := (qek (rest c + 2) c).2.1
  split at h
  · rename_i h2
    rw [if_pos h2]
    split at h
    · rename_i h3
      rw [if_pos h3]
      have h4 := qg0 h3
      have h5 := (hm (qv (qcu (rest c + 2) c).1 [45, 62]).1).2.1
      simp only; omega
    · cases h
  · cases h
theorem qwx (p : Int) (c : K) : Mon c (qf0 rec p c).1 := by
  unfold qf0 qzx qy5
  have h := hm c
  split
  · split
    · exact (h.trans (qq _ _)).trans (qf2 (fun c => qj1 hm c) _)
    · exact h.trans (qq _ _)
  · exact h
omit hm in
theorem qjx (c : K) (w : List UInt8) : Mon c (ifsK c w).1 := by
  unfold ifsK
  split
  · exact Mon.refl c
  · exact qq c w
theorem qq7 (p : Int) : ∀ (l : List (List UInt8)) (c : K) (acc : List N), Mon c (qea rec p l c acc).1
  | [], c, acc => Mon.refl c
  | w :: r, c, acc => by
    rw [qea]
    split
    · split
      · exact ((qjx c w).trans (hm _)).trans (qq7 p r _ _)
      · exact (qjx c w).trans (hm _)
    · exact qjx c w
theorem qnz (c : K) : Mon c (qeg rec c).1 := by
  unfold qeg
  split
  · split
    · exact (q8 c _).trans (qib hm _ _ _)
    · exact (q8 c _).trans (qfk _ 5)
  · split
    · exact (q8 c _).trans (qzq hm _ _)
    · split
      · exact (q8 c _).trans (qwx hm _ _)
      · split
        · exact (q8 c _).trans (qq7 hm _ _ _ _)
        · exact qyv hm c
end
theorem qjk : ∀ (f : Nat) (c : K), Mon c (qgf f c).1
  | 0, c => Mon.refl c
  | f + 1, c => by
    rw [qgf]
    split
    · exact ((qx c).trans (qnz (qjk f) _)).trans (qbw _)
    · exact qx c
set_option maxRecDepth 4000

def resB (r : N × Bool) : AV := .tup [enc r.1, .bool r.2]
attribute [go_sem] resB
theorem q1r (k : Nat) (r : N × Bool) : (resB r).bd k = true := by simp only [resB, AV.bd, AV.bds, qpf, Bool.and_true]
theorem qpk {P : Program} {f : FuncId} {c c' : K} {L : List Ent} {args : List AV} {r : N × Bool} {Q : List Ent → VO → Prop} (h : qcp P f (curE c) (curE c') args (resB r)) (ha : AV.bds 1 args = true) (hq : Q (curE c' :: L) (.val (resB r))) : VApp P (curE c :: L) (.fn f [] []) args Q :=
  qb9 h (qbm _ _) (qbm _ _) ha (q1r _ _) fun _ => hq
theorem q5s (c : K) : qcp Tryz.prog 93 (curE c) (curE c) [.ptr 0 0] (resP (qiu c)) := by
  refine qbe c0z 1 (by simp) (by simp) ?_
  repeat' (first | refine ql ?_ | refine qk ?_ | ((first | refine qn ?_ | refine qm ?_ | refine qi ?_ | refine qh ?_ | refine qdv ?_ | refine a_Is ?_); simp only [go_sem, ↓reduceIte, Nat.reduceEqDiff, Nat.reduceAdd, Nat.reduceSub, Nat.reduceMul, Nat.reduceLT, Nat.reduceLeDiff, reduceCtorEq, Int.reduceToNat]) | ((first | refine qf ?_ ?_ | refine qe ?_ ?_) <;> intro hc <;> simp only [hc, go_sem, ↓reduceIte, Nat.reduceEqDiff, Nat.reduceAdd, Nat.reduceSub, Nat.reduceMul, Nat.reduceLT, Nat.reduceLeDiff, reduceCtorEq, Int.reduceToNat] <;> (try simp only [qb, qa, decide_eq_true_eq, decide_eq_false_iff_not, Bool.and_eq_true] at hc)) | refine And.intro (by first | assumption | omega | (have := qg (by assumption); omega) | (unfold qp; omega)) ?_ | fail)
  all_goals (unfold qiu qh1; simp_all [enc, encs, N0])
theorem q2n {c : K} {L : List Ent} {Q : List Ent → VO → Prop} (hq : Q (curE c :: L) (.val (resP (qiu c)))) : VApp Tryz.prog (curE c :: L) (.fn 93 [] []) [.ptr 0 0] Q := qdt (q5s c) rfl hq
section
variable {rec : K → K × Option N} {b : Nat} (hm : ∀ c, Mon c (rec c).1) (ih : ∀ c, c.good → rest c < b → qcp Tryz.prog 10 (curE c) (curE (rec c).1) [.ptr 0 0] (resP (rec c).2))
include hm ih
theorem qw1 (c : K) (hg : c.good) (hr : rest c ≤ b) : qcp Tryz.prog 92 (curE c) (curE (qbl rec c).1) [.ptr 0 0] (resP (qbl rec c).2) := by
  have g1 : (qj c).1.good := (qx c).1 hg
  have g2 : (q9 (qj c).1).good := (qbs _).1 g1
  have g3 : (rec (q9 (qj c).1)).1.good := (hm _).1 g2
  have g4 : (qv (rec (q9 (qj c).1)).1 [41]).1.good := (qq _ _).1 g3
  have hrr : isK c [40] = true → (qj c).2 = true → rest (q9 (qj c).1) < b := fun h1 h2 => by
    have := qbo (c := (qj c).1) (by rw [qeo h2]; exact qdo h1)
    have := (qx c).2.1
    omega
  refine qbe c0ba 1 (by simp) (by simp) ?_
  repeat' (first | refine ql ?_ | ((first | refine qn ?_ | refine qm ?_ | refine qi ?_ | refine qh ?_ | refine q2n ?_ | refine a_Is ?_ | refine qqb ?_ | refine qht ?_ | refine qi8 hg.ok ?_ | refine qi8 g1.ok ?_ | refine qdt (ih _ g2 (hrr (by assumption) (by assumption))) rfl ?_ | refine qd2 g3.ok ?_ | refine qfz g4.2.2 ?_); simp only [go_sem, ↓reduceIte, Nat.reduceEqDiff, Nat.reduceAdd, Nat.reduceSub, Nat.reduceMul, Nat.reduceLT, Nat.reduceLeDiff, reduceCtorEq, Int.reduceToNat]) | ((first | refine qf ?_ ?_ | refine qe ?_ ?_) <;> intro hc <;> simp only [hc, go_sem, ↓reduceIte, Nat.reduceEqDiff, Nat.reduceAdd, Nat.reduceSub, Nat.reduceMul, Nat.reduceLT, Nat.reduceLeDiff, reduceCtorEq, Int.reduceToNat] <;> (try simp only [qb, qa, decide_eq_true_eq, decide_eq_false_iff_not, Bool.and_eq_true] at hc)) | refine And.intro (by first | assumption | omega | (have := qg (by assumption); omega) | (unfold qp; omega)) ?_ | fail)
  all_goals (unfold qbl; simp only [*, qd3, Int.reduceEq, if_true, if_false, reduceIte, Bool.false_eq_true, Option.getD_none, Option.getD_some, Option.isSome_none, Option.isSome_some, and_self, true_and, and_true]; try rfl)
omit hm ih
/-- A variable that holds a tree: its row may be a literal. -/
def qmb (fl : Bool) (n : N) : Ent := .blk [.int .i64 n.kind, .int .i64 n.pos, .int .i64 n.num, .str n.text, if fl = true then .lit 5 (encs n.kids) else .sl 5 (encs n.kids)]
theorem qbb4 {P : Program} {fr : Option Nat} {k m : Nat} {a : IC} {Q : VE → AF → List Ent → Prop} {af : AF} {A B : Ent} {L : List Ent} {fl : Bool} {n : N} (h : VI P fr k m a Q af (A :: B :: .blk (enc n).cells :: L)) : VI P fr k m a Q af (A :: B :: qmb fl n :: L) := by
  cases n
  cases fl with
  | false => exact h
  | true =>
    refine qra 2 4 (.sl 5) (by rfl) ?_
    simp only [List.getD_cons_succ, List.getD_cons_zero, if_true, qla, List.set_cons_succ, List.set_cons_zero]
    exact h
include hm ih
def q4c (x : Bool × Nat × K × N × Bool) : AF × List Ent :=
  (⟨[(0, .ptr 0 0), (2, .ptr 1 0), (4, .ptr 2 0), (5, .bool x.2.2.2.2)], []⟩, [curE x.2.2.1, .blk [.int .i64 0, .int .i64 0, .int .i64 0, .str [], .nils], qmb x.1 x.2.2.2.1])
theorem q97 (c : K) (hg : c.good) (hr : rest c ≤ b) : qcp Tryz.prog 58 (curE c) (curE (qg7 rec c).1) [.ptr 0 0] (resB (qg7 rec c).2) := by
  refine qbe c0bb 1 (by simp) (by simp) ?_
  have g0 : (qbl rec c).1.good := (qc7 hm c).1 hg
  have hr0 : rest (qbl rec c).1 ≤ b := by have := (qc7 hm c).2.1; omega
  generalize htg : qg7 rec c = tg
  repeat' (first | refine ql ?_ | refine qk ?_ | ((first | refine qn ?_ | refine qm ?_ | refine qs ?_ | refine qi ?_ | refine qh ?_ | refine qdt (qw1 hm ih _ hg hr) rfl ?_); simp only [go_sem, ↓reduceIte, Nat.reduceEqDiff, Nat.reduceAdd, Nat.reduceSub, Nat.reduceMul, Nat.reduceLT, Nat.reduceLeDiff, reduceCtorEq, Int.reduceToNat]) | ((first | refine qf ?_ ?_ | refine qe ?_ ?_) <;> intro hc <;> simp only [hc, go_sem, ↓reduceIte, Nat.reduceEqDiff, Nat.reduceAdd, Nat.reduceSub, Nat.reduceMul, Nat.reduceLT, Nat.reduceLeDiff, reduceCtorEq, Int.reduceToNat] <;> (try simp only [qb, qa, decide_eq_true_eq, decide_eq_false_iff_not, Bool.and_eq_true] at hc)) | refine And.intro (by first | assumption | omega | (have := qg (by assumption); omega) | (unfold qp; omega)) ?_ | fail)
  refine qby (S := Bool × Nat × K × N × Bool) (fun x => x.2.2.1.good ∧ rest x.2.2.1 ≤ b ∧ (x.2.2.2.2 = true → qfj rec x.2.1 x.2.2.1 x.2.2.2.1 = tg ∧ rest x.2.2.1 < x.2.1) ∧ (x.2.2.2.2 = false → tg = (x.2.2.1, x.2.2.2.1, false)))
    q4c (fun x => if x.2.2.2.2 = true then rest x.2.2.1 + 1 else 0) ?_ ?_
  · refine qbn (false, rest (qbl rec c).1 + 1, (qbl rec c).1, (qbl rec c).2.getD N0, (qbl rec c).2.isSome) [0, 1, 2] ⟨g0, hr0, fun h => ⟨?_, Nat.lt_succ_self _⟩, fun h => ?_⟩ rfl (by simp) ?_ ?_ ?_
    · simp only at h; rw [← htg, qg7, if_pos h]
    · simp only at h; rw [← htg, qg7, if_neg (by rw [h]; simp)]
    all_goals simp only [q4c, qmb]
    all_goals simp only [go_sem, ↓reduceIte, Nat.reduceEqDiff, Nat.reduceAdd, Nat.reduceSub, Nat.reduceMul, Nat.reduceLT, Nat.reduceLeDiff, reduceCtorEq, Int.reduceToNat]
  · rintro ⟨fl, fu, d, n, ok⟩ ⟨i1, i2, i3, i4⟩
    simp only at i1 i2 i3 i4
    unfold q4c
    refine qbb4 ?_
    cases ok with
    | false =>
      have i4 := i4 rfl
      subst i4
      repeat' (first | refine ql ?_ | refine qk ?_ | ((first | refine qn ?_ | refine qm ?_ | refine qs ?_ | refine qi ?_ | refine qh ?_); simp only [go_sem, ↓reduceIte, Nat.reduceEqDiff, Nat.reduceAdd, Nat.reduceSub, Nat.reduceMul, Nat.reduceLT, Nat.reduceLeDiff, reduceCtorEq, Int.reduceToNat]) | ((first | refine qf ?_ ?_ | refine qe ?_ ?_) <;> intro hc <;> simp only [hc, go_sem, ↓reduceIte, Nat.reduceEqDiff, Nat.reduceAdd, Nat.reduceSub, Nat.reduceMul, Nat.reduceLT, Nat.reduceLeDiff, reduceCtorEq, Int.reduceToNat] <;> (try simp only [qb, qa, decide_eq_true_eq, decide_eq_false_iff_not, Bool.and_eq_true] at hc)) | refine And.intro (by first | assumption | omega | (have := qg (by assumption); omega) | (unfold qp; omega)) ?_ | fail)
    | true =>
      obtain ⟨i3, i5⟩ := i3 rfl
      clear i4
      obtain ⟨fu, rfl⟩ : ∃ k, fu = k + 1 := ⟨fu - 1, by omega⟩
      rw [qfj] at i3
      have j1 : (qbl rec d).1.good := (qc7 hm d).1 i1
      have j2 : rest (qbl rec d).1 ≤ rest d := (qc7 hm d).2.1
      have key : begE d = true → (((qbl rec d).2.isSome = true → qfj rec fu (qbl rec d).1 (appN n ((qbl rec d).2.getD N0)) = tg ∧ rest (qbl rec d).1 < fu) ∧ ((qbl rec d).2.isSome = false → tg = ((qbl rec d).1, appN n ((qbl rec d).2.getD N0), false))) ∧
          (if (qbl rec d).2.isSome = true then rest (qbl rec d).1 + 1 else 0) < rest d + 1 := fun hb => by
        rw [if_pos hb] at i3
        refine ⟨⟨fun h => ?_, fun h => ?_⟩, ?_⟩
        · rw [if_pos h] at i3
          have := qi6 hm h
          exact ⟨i3, by omega⟩
        · rw [if_neg (by rw [h]; simp)] at i3
          exact i3.symm
        · split
          · rename_i h
            have := qi6 hm h
            omega
          · omega
      have e1 : (qiu d).isSome = true → begE d = true := fun h => by rw [begE, h]; rfl
      have e2 : isK d [40] = true → begE d = true := fun h => by rw [begE, h, Bool.or_true]
      repeat' (first | refine ql ?_ | refine qk ?_ | ((first | refine qn ?_ | refine qm ?_ | refine qs ?_ | refine qi ?_ | refine qh ?_ | refine q2n ?_ | refine a_Is ?_ | refine qdt (qw1 hm ih _ i1 i2) rfl ?_); simp only [go_sem, ↓reduceIte, Nat.reduceEqDiff, Nat.reduceAdd, Nat.reduceSub, Nat.reduceMul, Nat.reduceLT, Nat.reduceLeDiff, reduceCtorEq, Int.reduceToNat]) | ((first | refine qf ?_ ?_ | refine qe ?_ ?_) <;> intro hc <;> simp only [hc, go_sem, ↓reduceIte, Nat.reduceEqDiff, Nat.reduceAdd, Nat.reduceSub, Nat.reduceMul, Nat.reduceLT, Nat.reduceLeDiff, reduceCtorEq, Int.reduceToNat] <;> (try simp only [qb, qa, decide_eq_true_eq, decide_eq_false_iff_not, Bool.and_eq_true] at hc)) | refine And.intro (by first | assumption | omega | (have := qg (by assumption); omega) | (unfold qp; omega)) ?_ | fail)
      · have hb : ¬ begE d = true := by rw [begE]; simp_all
        rw [if_neg hb] at i3
        subst i3
        exact ⟨rfl, rfl⟩
      · obtain ⟨k1, k2⟩ := key (e2 (by assumption))
        refine qbn (true, fu, (qbl rec d).1, appN n ((qbl rec d).2.getD N0), (qbl rec d).2.isSome) [0, 1, 2] ⟨⟨j1, by simp only; omega, k1⟩, by simpa using k2⟩ rfl (by simp) ?_ ?_ ?_
        all_goals simp only [q4c, qmb, appN, encs, N.kind, N.pos, N.num, N.text, N.kids]
        all_goals simp only [go_sem, ↓reduceIte, Nat.reduceEqDiff, Nat.reduceAdd, Nat.reduceSub, Nat.reduceMul, Nat.reduceLT, Nat.reduceLeDiff, reduceCtorEq, Int.reduceToNat]
      · obtain ⟨k1, k2⟩ := key (e1 (by assumption))
        refine qbn (true, fu, (qbl rec d).1, appN n ((qbl rec d).2.getD N0), (qbl rec d).2.isSome) [0, 1, 2] ⟨⟨j1, by simp only; omega, k1⟩, by simpa using k2⟩ rfl (by simp) ?_ ?_ ?_
        all_goals simp only [q4c, qmb, appN, encs, N.kind, N.pos, N.num, N.text, N.kids]
        all_goals simp only [go_sem, ↓reduceIte, Nat.reduceEqDiff, Nat.reduceAdd, Nat.reduceSub, Nat.reduceMul, Nat.reduceLT, Nat.reduceLeDiff, reduceCtorEq, Int.reduceToNat]
end
set_option maxRecDepth 4000

theorem qwy (t : T) (n : N) : AV.agg [.int .i64 25, .int .i64 t.pos, .int .i64 0, .str t.text, .sl 5 [enc n]] = enc (lamN t n) := by simp only [lamN, enc, encs]
theorem qf5 (k : Int) (t : T) (n : N) : AV.agg [.int .i64 k, .int .i64 t.pos, .int .i64 0, .str t.text, .sl 5 [enc n]] = enc (qm4 k t n) := by simp only [qm4, enc, encs]
section
variable {rec : K → K × Option N} {b : Nat} (ih : ∀ c, c.good → rest c < b → qcp Tryz.prog 10 (curE c) (curE (rec c).1) [.ptr 0 0] (resP (rec c).2))
include ih
theorem qsi (x : List UInt8) : ∀ (f : Nat) (c : K), c.good → rest c ≤ b → rest c < f → qcp Tryz.prog 23 (curE c) (curE (qcj rec x f c).1) [.ptr 0 0, .str x] (resB (qcj rec x f c).2)
  | 0, c => fun _ _ h => absurd h (by omega)
  | f + 1, c => fun hg hb hf => by
    have g1 : (q9 c).good := (qbs c).1 hg
    have g2 : (qv c x).1.good := (qq c x).1 hg
    refine qbe c0x 1 (by simp) (by simp) ?_
    by_cases hk : (qbd c).kind = 1
    · have hrn := qbo (c := c) (by omega)
      have hl := qsi x f (q9 c) g1 (by omega) (by omega)
      have hpa : qcj rec x (f + 1) c = ((qcj rec x f (q9 c)).1, lamN (qbd c) (qcj rec x f (q9 c)).2.1, (qcj rec x f (q9 c)).2.2) := by rw [qcj, if_pos hk]
      rw [hpa]
      clear hpa
      generalize qcj rec x f (q9 c) = r at *
      repeat' (first | refine ql ?_ | ((first | refine qn ?_ | refine qm ?_ | refine qi ?_ | refine qh ?_); simp (disch := first | omega | (simp only [List.length_set, List.length_append, List.length_cons, List.length_nil]; done) | (simp only [List.length_set, List.length_append, List.length_cons, List.length_nil]; omega)) only [hk, ne_eq, not_true_eq_false, decide_false, go_sem, ↓reduceIte, Nat.reduceEqDiff, Nat.reduceAdd, Nat.reduceSub, Nat.reduceMul, Nat.reduceLT, Nat.reduceLeDiff, reduceCtorEq, Int.reduceToNat]) | ((first | refine qf ?_ ?_ | refine qe ?_ ?_) <;> intro hc <;> simp only [hc, go_sem, ↓reduceIte, Nat.reduceEqDiff, Nat.reduceAdd, Nat.reduceSub, Nat.reduceMul, Nat.reduceLT, Nat.reduceLeDiff, reduceCtorEq, Int.reduceToNat] <;> (try simp only [qb, qa, decide_eq_true_eq, decide_eq_false_iff_not, Bool.and_eq_true] at hc)) | refine And.intro (by first | assumption | omega | (have := qg (by assumption); omega) | (unfold qp; omega)) ?_ | fail | ((first | refine qdv ?_ | refine qi8 hg.ok ?_ | refine qpk hl rfl ?_); simp only [go_sem, ↓reduceIte, Nat.reduceEqDiff, Nat.reduceAdd, Nat.reduceSub, Nat.reduceMul, Nat.reduceLT, Nat.reduceLeDiff, reduceCtorEq, Int.reduceToNat]))
      all_goals first | (rw [qwy]; done) | (rw [qwy]; rfl) | (rw [qwy]; exact ⟨rfl, rfl⟩)
    · by_cases hw : (qv c x).2 = true
      · have hlt := qg0 hw
        have hpa : qcj rec x (f + 1) c = ofO (rec (qv c x).1) := by rw [qcj, if_neg hk, if_pos hw]
        rw [hpa, ofO]
        repeat' (first | refine ql ?_ | ((first | refine qn ?_ | refine qm ?_ | refine qi ?_ | refine qh ?_); simp (disch := first | omega | (simp only [List.length_set, List.length_append, List.length_cons, List.length_nil]; done) | (simp only [List.length_set, List.length_append, List.length_cons, List.length_nil]; omega)) only [hk, hw, ne_eq, not_false_eq_true, decide_true, go_sem, ↓reduceIte, Nat.reduceEqDiff, Nat.reduceAdd, Nat.reduceSub, Nat.reduceMul, Nat.reduceLT, Nat.reduceLeDiff, reduceCtorEq, Int.reduceToNat]) | ((first | refine qf ?_ ?_ | refine qe ?_ ?_) <;> intro hc <;> simp only [hc, go_sem, ↓reduceIte, Nat.reduceEqDiff, Nat.reduceAdd, Nat.reduceSub, Nat.reduceMul, Nat.reduceLT, Nat.reduceLeDiff, reduceCtorEq, Int.reduceToNat] <;> (try simp only [qb, qa, decide_eq_true_eq, decide_eq_false_iff_not, Bool.and_eq_true] at hc)) | refine And.intro (by first | assumption | omega | (have := qg (by assumption); omega) | (unfold qp; omega)) ?_ | fail | ((first | refine qdv ?_ | refine qd2 hg.ok ?_ | refine qdt (ih _ g2 (by omega)) rfl ?_); simp only [go_sem, ↓reduceIte, Nat.reduceEqDiff, Nat.reduceAdd, Nat.reduceSub, Nat.reduceMul, Nat.reduceLT, Nat.reduceLeDiff, reduceCtorEq, Int.reduceToNat]))
      · have hpa : qcj rec x (f + 1) c = ((qv c x).1, N0, false) := by rw [qcj, if_neg hk, if_neg hw]
        rw [hpa]
        repeat' (first | refine ql ?_ | ((first | refine qn ?_ | refine qm ?_ | refine qi ?_ | refine qh ?_); simp (disch := first | omega | (simp only [List.length_set, List.length_append, List.length_cons, List.length_nil]; done) | (simp only [List.length_set, List.length_append, List.length_cons, List.length_nil]; omega)) only [hk, hw, ne_eq, not_false_eq_true, decide_true, go_sem, ↓reduceIte, Nat.reduceEqDiff, Nat.reduceAdd, Nat.reduceSub, Nat.reduceMul, Nat.reduceLT, Nat.reduceLeDiff, reduceCtorEq, Int.reduceToNat]) | ((first | refine qf ?_ ?_ | refine qe ?_ ?_) <;> intro hc <;> simp only [hc, go_sem, ↓reduceIte, Nat.reduceEqDiff, Nat.reduceAdd, Nat.reduceSub, Nat.reduceMul, Nat.reduceLT, Nat.reduceLeDiff, reduceCtorEq, Int.reduceToNat] <;> (try simp only [qb, qa, decide_eq_true_eq, decide_eq_false_iff_not, Bool.and_eq_true] at hc)) | refine And.intro (by first | assumption | omega | (have := qg (by assumption); omega) | (unfold qp; omega)) ?_ | fail | ((first | refine qdv ?_ | refine qd2 hg.ok ?_); simp only [go_sem, ↓reduceIte, Nat.reduceEqDiff, Nat.reduceAdd, Nat.reduceSub, Nat.reduceMul, Nat.reduceLT, Nat.reduceLeDiff, reduceCtorEq, Int.reduceToNat]))
        all_goals first | (rw [qd3]; done) | (rw [qd3]; rfl) | (rw [qd3]; exact ⟨rfl, rfl⟩)
theorem qzs (c : K) (hg : c.good) (hr : rest c ≤ b) : qcp Tryz.prog 8 (curE c) (curE (qcd rec c).1) [.ptr 0 0] (resP (qcd rec c).2) := by
  have g1 : (qbp c 1).1.good := (qcx c 1).1 hg
  have hr1 : rest (qbp c 1).1 ≤ b := by have := (qcx c 1).2.1; omega
  have g2 : (qt (qbp c 1).1 [58, 58]).1.good := (q8 _ _).1 g1
  have hl := qsi ih [61] (rest (qbp c 1).1 + 1) (qbp c 1).1 g1 hr1 (Nat.lt_succ_self _)
  have hq := qyx (rest (qt (qbp c 1).1 [58, 58]).1 + 2) (qt (qbp c 1).1 [58, 58]).1 g2 (by omega)
  have ht0 : (qt (qbp c 1).1 [58, 58]).2 = false → (qt (qbp c 1).1 [58, 58]).1 = (qbp c 1).1 := fun h => qdl h
  refine qbe c0y 1 (by simp) (by simp) ?_
  unfold qcd
  generalize qcj rec [61] (rest (qbp c 1).1 + 1) (qbp c 1).1 = r at *
  generalize qe4 (rest (qt (qbp c 1).1 [58, 58]).1 + 2) (qt (qbp c 1).1 [58, 58]).1 = q at *
  by_cases hk : (qbp c 1).2 = true
  · rw [if_pos hk]
    by_cases ht : (qt (qbp c 1).1 [58, 58]).2 = true
    · rw [if_pos ht]
      cases ho : q.2 with
      | none =>
        rw [ho] at hq
        repeat' (first | refine ql ?_ | ((first | refine qn ?_ | refine qm ?_ | refine qi ?_ | refine qh ?_); simp (disch := first | omega | (simp only [List.length_set, List.length_append, List.length_cons, List.length_nil]; done) | (simp only [List.length_set, List.length_append, List.length_cons, List.length_nil]; omega)) only [hk, ht, Option.isSome_none, Option.getD_none, go_sem, ↓reduceIte, Nat.reduceEqDiff, Nat.reduceAdd, Nat.reduceSub, Nat.reduceMul, Nat.reduceLT, Nat.reduceLeDiff, reduceCtorEq, Int.reduceToNat]) | ((first | refine qf ?_ ?_ | refine qe ?_ ?_) <;> intro hc <;> simp only [hc, go_sem, ↓reduceIte, Nat.reduceEqDiff, Nat.reduceAdd, Nat.reduceSub, Nat.reduceMul, Nat.reduceLT, Nat.reduceLeDiff, reduceCtorEq, Int.reduceToNat] <;> (try simp only [qb, qa, decide_eq_true_eq, decide_eq_false_iff_not, Bool.and_eq_true] at hc)) | refine And.intro (by first | assumption | omega | (have := qg (by assumption); omega) | (unfold qp; omega)) ?_ | fail | ((first | refine qq6 hg.ok ?_ | refine qfh g1.ok ?_ | refine qdt hq rfl ?_); simp only [go_sem, ↓reduceIte, Nat.reduceEqDiff, Nat.reduceAdd, Nat.reduceSub, Nat.reduceMul, Nat.reduceLT, Nat.reduceLeDiff, reduceCtorEq, Int.reduceToNat]))
        all_goals first | (rw [qd3]; done) | (rw [qd3]; rfl) | (rw [qd3]; exact ⟨rfl, rfl⟩)
      | some n =>
        rw [ho] at hq
        repeat' (first | refine ql ?_ | ((first | refine qn ?_ | refine qm ?_ | refine qi ?_ | refine qh ?_); simp (disch := first | omega | (simp only [List.length_set, List.length_append, List.length_cons, List.length_nil]; done) | (simp only [List.length_set, List.length_append, List.length_cons, List.length_nil]; omega)) only [hk, ht, Option.isSome_some, Option.getD_some, go_sem, ↓reduceIte, Nat.reduceEqDiff, Nat.reduceAdd, Nat.reduceSub, Nat.reduceMul, Nat.reduceLT, Nat.reduceLeDiff, reduceCtorEq, Int.reduceToNat]) | ((first | refine qf ?_ ?_ | refine qe ?_ ?_) <;> intro hc <;> simp only [hc, go_sem, ↓reduceIte, Nat.reduceEqDiff, Nat.reduceAdd, Nat.reduceSub, Nat.reduceMul, Nat.reduceLT, Nat.reduceLeDiff, reduceCtorEq, Int.reduceToNat] <;> (try simp only [qb, qa, decide_eq_true_eq, decide_eq_false_iff_not, Bool.and_eq_true] at hc)) | refine And.intro (by first | assumption | omega | (have := qg (by assumption); omega) | (unfold qp; omega)) ?_ | fail | ((first | refine qq6 hg.ok ?_ | refine qfh g1.ok ?_ | refine qdt hq rfl ?_); simp only [go_sem, ↓reduceIte, Nat.reduceEqDiff, Nat.reduceAdd, Nat.reduceSub, Nat.reduceMul, Nat.reduceLT, Nat.reduceLeDiff, reduceCtorEq, Int.reduceToNat]))
        all_goals first | (rw [qf5]; done) | (rw [qf5]; rfl) | (rw [qf5]; exact ⟨rfl, rfl⟩)
    · rw [if_neg ht]
      have ht : (qt (qbp c 1).1 [58, 58]).2 = false := by simpa using ht
      have ht0 := ht0 ht
      obtain ⟨d, n, ok⟩ := r
      simp only [toO] at hl ⊢
      rw [← ht0] at hl
      cases ok with
      | false =>
        repeat' (first | refine ql ?_ | ((first | refine qn ?_ | refine qm ?_ | refine qi ?_ | refine qh ?_); simp (disch := first | omega | (simp only [List.length_set, List.length_append, List.length_cons, List.length_nil]; done) | (simp only [List.length_set, List.length_append, List.length_cons, List.length_nil]; omega)) only [hk, ht, go_sem, ↓reduceIte, Nat.reduceEqDiff, Nat.reduceAdd, Nat.reduceSub, Nat.reduceMul, Nat.reduceLT, Nat.reduceLeDiff, reduceCtorEq, Int.reduceToNat]) | ((first | refine qf ?_ ?_ | refine qe ?_ ?_) <;> intro hc <;> simp only [hc, go_sem, ↓reduceIte, Nat.reduceEqDiff, Nat.reduceAdd, Nat.reduceSub, Nat.reduceMul, Nat.reduceLT, Nat.reduceLeDiff, reduceCtorEq, Int.reduceToNat] <;> (try simp only [qb, qa, decide_eq_true_eq, decide_eq_false_iff_not, Bool.and_eq_true] at hc)) | refine And.intro (by first | assumption | omega | (have := qg (by assumption); omega) | (unfold qp; omega)) ?_ | fail | ((first | refine qq6 hg.ok ?_ | refine qfh g1.ok ?_ | refine qpk hl rfl ?_); simp only [go_sem, ↓reduceIte, Nat.reduceEqDiff, Nat.reduceAdd, Nat.reduceSub, Nat.reduceMul, Nat.reduceLT, Nat.reduceLeDiff, reduceCtorEq, Int.reduceToNat]))
        all_goals first | (rw [qd3]; done) | (rw [qd3]; rfl) | (rw [qd3]; exact ⟨rfl, rfl⟩)
      | true =>
        repeat' (first | refine ql ?_ | ((first | refine qn ?_ | refine qm ?_ | refine qi ?_ | refine qh ?_); simp (disch := first | omega | (simp only [List.length_set, List.length_append, List.length_cons, List.length_nil]; done) | (simp only [List.length_set, List.length_append, List.length_cons, List.length_nil]; omega)) only [hk, ht, go_sem, ↓reduceIte, Nat.reduceEqDiff, Nat.reduceAdd, Nat.reduceSub, Nat.reduceMul, Nat.reduceLT, Nat.reduceLeDiff, reduceCtorEq, Int.reduceToNat]) | ((first | refine qf ?_ ?_ | refine qe ?_ ?_) <;> intro hc <;> simp only [hc, go_sem, ↓reduceIte, Nat.reduceEqDiff, Nat.reduceAdd, Nat.reduceSub, Nat.reduceMul, Nat.reduceLT, Nat.reduceLeDiff, reduceCtorEq, Int.reduceToNat] <;> (try simp only [qb, qa, decide_eq_true_eq, decide_eq_false_iff_not, Bool.and_eq_true] at hc)) | refine And.intro (by first | assumption | omega | (have := qg (by assumption); omega) | (unfold qp; omega)) ?_ | fail | ((first | refine qq6 hg.ok ?_ | refine qfh g1.ok ?_ | refine qpk hl rfl ?_); simp only [go_sem, ↓reduceIte, Nat.reduceEqDiff, Nat.reduceAdd, Nat.reduceSub, Nat.reduceMul, Nat.reduceLT, Nat.reduceLeDiff, reduceCtorEq, Int.reduceToNat]))
        all_goals first | (rw [qf5]; done) | (rw [qf5]; rfl) | (rw [qf5]; exact ⟨rfl, rfl⟩)
  · rw [if_neg hk]
    repeat' (first | refine ql ?_ | ((first | refine qn ?_ | refine qm ?_ | refine qi ?_ | refine qh ?_); simp (disch := first | omega | (simp only [List.length_set, List.length_append, List.length_cons, List.length_nil]; done) | (simp only [List.length_set, List.length_append, List.length_cons, List.length_nil]; omega)) only [hk, go_sem, ↓reduceIte, Nat.reduceEqDiff, Nat.reduceAdd, Nat.reduceSub, Nat.reduceMul, Nat.reduceLT, Nat.reduceLeDiff, reduceCtorEq, Int.reduceToNat]) | ((first | refine qf ?_ ?_ | refine qe ?_ ?_) <;> intro hc <;> simp only [hc, go_sem, ↓reduceIte, Nat.reduceEqDiff, Nat.reduceAdd, Nat.reduceSub, Nat.reduceMul, Nat.reduceLT, Nat.reduceLeDiff, reduceCtorEq, Int.reduceToNat] <;> (try simp only [qb, qa, decide_eq_true_eq, decide_eq_false_iff_not, Bool.and_eq_true] at hc)) | refine And.intro (by first | assumption | omega | (have := qg (by assumption); omega) | (unfold qp; omega)) ?_ | fail | ((first | refine qq6 hg.ok ?_); simp only [go_sem, ↓reduceIte, Nat.reduceEqDiff, Nat.reduceAdd, Nat.reduceSub, Nat.reduceMul, Nat.reduceLT, Nat.reduceLeDiff, reduceCtorEq, Int.reduceToNat]))
    all_goals first | (rw [qd3]; done) | (rw [qd3]; rfl) | (rw [qd3]; exact ⟨rfl, rfl⟩)
end
set_option maxRecDepth 4000

/-- A function over the variable that holds the cursor. -/
def VClo (g : FuncId) (c c' : K) (r : N × Bool) : Prop := VCalls Tryz.prog g [curE c, .blk [.ptr 0 0]] [.ptr 1 0] fun H' o => H' = [curE c', .blk [.ptr 0 0]] ∧ o = .val (resB r)
theorem qnc (c : K) : [curE c, .blk [.ptr 0 0]].all (Ent.bd 2) = true := by
  simp only [List.all_cons, List.all_nil, qbm, Bool.true_and, Bool.and_true]; rfl
theorem qsb {g : FuncId} {c c' : K} {r : N × Bool} {L : List Ent} {Q : List Ent → VO → Prop} (h : VClo g c c' r) (hq : Q (curE c' :: .blk [.ptr 0 0] :: L) (.val (resB r))) : VApp Tryz.prog (curE c :: .blk [.ptr 0 0] :: L) (.fn g [] [.ptr 1 0]) [] Q :=
  qhw (first := []) (caps := [.ptr 1 0]) (by
    simp only [List.nil_append]
    refine qju (H0 := [curE c, .blk [.ptr 0 0]]) (L := L) h (qnc c) rfl ?_
    rintro H1 o ⟨rfl, rfl⟩
    exact ⟨rfl, qnc c', q1r _ _, hq⟩)
def qnb (rd : K → R3) (g : FuncId) (c : K) : Prop := VCalls Tryz.prog 88 [curE c, .blk [.ptr 0 0]] [.ptr 0 0, .fn g [] [.ptr 1 0]] fun H' o =>
  H' = curE (qbr rd c).1 :: .blk [.ptr 0 0] :: accE 5 (encs (qbr rd c).2.1) ∧ o = .val (.tup [accV 2 (encs (qbr rd c).2.1), .bool (qbr rd c).2.2])
def quh (g : FuncId) (x : Nat × K × List N) : AF × List Ent :=
  (⟨[(0, .ptr 0 0), (1, .fn g [] [.ptr 1 0]), (6, accV 2 (encs x.2.2))], []⟩, curE x.2.1 :: .blk [.ptr 0 0] :: accE 5 (encs x.2.2))
theorem qyj {rd : K → R3} {g : FuncId} {b : Nat} (hd : ∀ c, Mon c (rd c).1) (hl : ∀ c, (rd c).2.2 = true → rest (rd c).1 < rest c) (ih : ∀ c, c.good → rest c ≤ b → VClo g c (rd c).1 (rd c).2) (c : K) (hg : c.good) (hr : rest c ≤ b) : qnb rd g c := by
  unfold qnb
  obtain ⟨kk, hk1, hk2, hk0⟩ : ∃ k : Nat, ((qbr rd c).2.1 = [] → k = 2) ∧ ((qbr rd c).2.1 ≠ [] → k = 3) ∧ 2 ≤ k := by
    by_cases h : (qbr rd c).2.1 = []
    · exact ⟨2, fun _ => rfl, fun g => absurd h g, by omega⟩
    · exact ⟨3, fun g => absurd g h, fun _ => rfl, by omega⟩
  refine qj2 c0w kk (by simpa using hk0) (by simp) ?_
  have g1 : (qv c [123]).1.good := (qq c _).1 hg
  have hr1 : rest (qv c [123]).1 ≤ b := by have := (qq c [123]).2.1; omega
  by_cases hw : (qv c [123]).2 = true
  · have hpa : qbr rd c = qb7 rd (rest (qv c [123]).1 + 1) (qv c [123]).1 [] := by rw [qbr, if_pos hw]
    rw [hpa] at hk1 hk2 ⊢
    clear hpa
    generalize htg : qb7 rd (rest (qv c [123]).1 + 1) (qv c [123]).1 [] = tg at hk1 hk2 ⊢
    repeat' (first | refine ql ?_ | refine qk ?_ | ((first | refine qn ?_ | refine qm ?_ | refine qi ?_ | refine qh ?_); simp (disch := first | omega | (simp only [List.length_set, List.length_append, List.length_cons, List.length_nil]; done) | (simp only [List.length_set, List.length_append, List.length_cons, List.length_nil]; omega)) only [hw, go_sem, ↓reduceIte, Nat.reduceEqDiff, Nat.reduceAdd, Nat.reduceSub, Nat.reduceMul, Nat.reduceLT, Nat.reduceLeDiff, reduceCtorEq, Int.reduceToNat]) | ((first | refine qf ?_ ?_ | refine qe ?_ ?_) <;> intro hc <;> simp only [hc, go_sem, ↓reduceIte, Nat.reduceEqDiff, Nat.reduceAdd, Nat.reduceSub, Nat.reduceMul, Nat.reduceLT, Nat.reduceLeDiff, reduceCtorEq, Int.reduceToNat] <;> (try simp only [qb, qa, decide_eq_true_eq, decide_eq_false_iff_not, Bool.and_eq_true] at hc)) | refine And.intro (by first | assumption | omega | (have := qg (by assumption); omega) | (unfold qp; omega)) ?_ | fail | ((first | refine qd2 hg.ok ?_); simp only [go_sem, ↓reduceIte, Nat.reduceEqDiff, Nat.reduceAdd, Nat.reduceSub, Nat.reduceMul, Nat.reduceLT, Nat.reduceLeDiff, reduceCtorEq, Int.reduceToNat]))
    refine qby (S := Nat × K × List N) (fun x => x.2.1.good ∧ rest x.2.1 ≤ b ∧ qb7 rd x.1 x.2.1 x.2.2 = tg ∧ rest x.2.1 < x.1 ∧ x.2.2.length + rest x.2.1 ≤ 1048577)
      (quh g) (fun x => rest x.2.1) ?_ ?_
    · refine qbn (rest (qv c [123]).1 + 1, (qv c [123]).1, []) [0, 1] ⟨g1, hr1, htg, Nat.lt_succ_self _, ?_⟩ rfl (by simp) ?_ ?_ ?_
      · have h9 := g1.rest
        unfold rest
        simp only [List.length_nil]
        omega
      all_goals simp only [quh, encs, qbu, qbv]
      all_goals simp only [go_sem, ↓reduceIte, Nat.reduceEqDiff, Nat.reduceAdd, Nat.reduceSub, Nat.reduceMul, Nat.reduceLT, Nat.reduceLeDiff, reduceCtorEq, Int.reduceToNat]
    · rintro ⟨fu, d, acc⟩ ⟨i1, i2, i3, i4, i5⟩
      simp only at i1 i2 i3 i4 i5
      obtain ⟨fu, rfl⟩ : ∃ k, fu = k + 1 := ⟨fu - 1, by omega⟩
      rw [qb7] at i3
      have hcap : qp (acc.length + 1) 64 := capN (by omega)
      have hclo := ih d i1 i2
      have hlt := hl d
      have j1 : (rd d).1.good := (hd d).1 i1
      have j2 := (hd d).2.1
      generalize rd d = r at *
      obtain ⟨d', n, ok⟩ := r
      simp only at j1 j2 hlt i3 hclo
      unfold quh qbdj
      generalize h9 : qbdk = R9
      cases ok with
      | false =>
        rw [if_neg (by simp)] at i3
        subst i3
        obtain rfl := hk1 rfl
        by_cases h0 : acc = []
        · subst h0
          simp only [encs, qbu, qbv]
          repeat' (first | refine ql ?_ | refine qk ?_ | ((first | refine qn ?_ | refine qm ?_ | refine qi ?_ | refine qh ?_ | refine qsb hclo ?_); simp only [go_sem, ↓reduceIte, Nat.reduceEqDiff, Nat.reduceAdd, Nat.reduceSub, Nat.reduceMul, Nat.reduceLT, Nat.reduceLeDiff, reduceCtorEq, Int.reduceToNat]) | ((first | refine qf ?_ ?_ | refine qe ?_ ?_) <;> intro hc <;> simp only [hc, go_sem, ↓reduceIte, Nat.reduceEqDiff, Nat.reduceAdd, Nat.reduceSub, Nat.reduceMul, Nat.reduceLT, Nat.reduceLeDiff, reduceCtorEq, Int.reduceToNat] <;> (try simp only [qb, qa, decide_eq_true_eq, decide_eq_false_iff_not, Bool.and_eq_true] at hc)) | refine And.intro (by first | assumption | omega | (have := qg (by assumption); omega) | (unfold qp; omega)) ?_ | fail)
          all_goals first | exact ⟨rfl, rfl⟩
        · have hne := qci h0
          simp only [qb4 hne, qb3 hne, qbz]
          repeat' (first | refine ql ?_ | refine qk ?_ | ((first | refine qn ?_ | refine qm ?_ | refine qi ?_ | refine qh ?_ | refine qsb hclo ?_); simp only [go_sem, ↓reduceIte, Nat.reduceEqDiff, Nat.reduceAdd, Nat.reduceSub, Nat.reduceMul, Nat.reduceLT, Nat.reduceLeDiff, reduceCtorEq, Int.reduceToNat]) | ((first | refine qf ?_ ?_ | refine qe ?_ ?_) <;> intro hc <;> simp only [hc, go_sem, ↓reduceIte, Nat.reduceEqDiff, Nat.reduceAdd, Nat.reduceSub, Nat.reduceMul, Nat.reduceLT, Nat.reduceLeDiff, reduceCtorEq, Int.reduceToNat] <;> (try simp only [qb, qa, decide_eq_true_eq, decide_eq_false_iff_not, Bool.and_eq_true] at hc)) | refine And.intro (by first | assumption | omega | (have := qg (by assumption); omega) | (unfold qp; omega)) ?_ | fail)
          all_goals first | exact ⟨rfl, rfl⟩
      | true =>
        have hlt := hlt rfl
        rw [if_pos rfl] at i3
        by_cases h0 : acc = []
        · subst h0
          simp only [encs, qbu, qbv]
          repeat' (first | refine ql ?_ | refine qk ?_ | ((first | refine qn ?_ | refine qm ?_ | refine qi ?_ | refine qh ?_ | refine qsb hclo ?_); simp only [go_sem, ↓reduceIte, Nat.reduceEqDiff, Nat.reduceAdd, Nat.reduceSub, Nat.reduceMul, Nat.reduceLT, Nat.reduceLeDiff, reduceCtorEq, Int.reduceToNat]) | ((first | refine qf ?_ ?_ | refine qe ?_ ?_) <;> intro hc <;> simp only [hc, go_sem, ↓reduceIte, Nat.reduceEqDiff, Nat.reduceAdd, Nat.reduceSub, Nat.reduceMul, Nat.reduceLT, Nat.reduceLeDiff, reduceCtorEq, Int.reduceToNat] <;> (try simp only [qb, qa, decide_eq_true_eq, decide_eq_false_iff_not, Bool.and_eq_true] at hc)) | refine And.intro (by first | assumption | omega | (have := qg (by assumption); omega) | (unfold qp; omega)) ?_ | fail)
          refine qb4y (af' := ⟨[(0, .ptr 0 0), (1, .fn g [] [.ptr 1 0]), (6, .row 2 1)], []⟩) (H' := [curE d', .blk [.ptr 0 0], .app 5 (encs ([] ++ [n]))]) ?_ (qbgc [0, 1, 3] rfl (by simp) ?_ ?_ ?_)
          rotate_left
          all_goals (try simp only [← qz, List.nil_append, encs, List.length_nil])
          all_goals (try simp only [go_sem, ↓reduceIte, Nat.reduceEqDiff, Nat.reduceAdd, Nat.reduceSub, Nat.reduceMul, Nat.reduceLT, Nat.reduceLeDiff, reduceCtorEq, Int.reduceToNat])
          all_goals (try (rw [qz, qcb, qc5]; exact ⟨rfl, rfl⟩))
          subst h9
          have hta : (qt d' [59]).1.good := (q8 _ _).1 j1
          have htr := (q8 d' [59]).2.1
          have hne3 : ¬ [] ++ [n] = [] := by simp
          have hlen : ([] ++ [n]).length = 1 := by simp
          repeat' (first | refine ql ?_ | refine qk ?_ | ((first | refine qn ?_ | refine qm ?_ | refine qi ?_ | refine qh ?_ | refine qfh j1.ok ?_ | refine a_Is ?_ | refine qd2 hta.ok ?_); simp only [go_sem, ↓reduceIte, Nat.reduceEqDiff, Nat.reduceAdd, Nat.reduceSub, Nat.reduceMul, Nat.reduceLT, Nat.reduceLeDiff, reduceCtorEq, Int.reduceToNat]) | ((first | refine qf ?_ ?_ | refine qe ?_ ?_) <;> intro hc <;> simp only [hc, go_sem, ↓reduceIte, Nat.reduceEqDiff, Nat.reduceAdd, Nat.reduceSub, Nat.reduceMul, Nat.reduceLT, Nat.reduceLeDiff, reduceCtorEq, Int.reduceToNat] <;> (try simp only [qb, qa, decide_eq_true_eq, decide_eq_false_iff_not, Bool.and_eq_true] at hc)) | refine And.intro (by first | assumption | omega | (have := qg (by assumption); omega) | (unfold qp; omega)) ?_ | fail)
          · have ht : (qt d' [59]).2 = false := by assumption
            rw [ht, Bool.false_and, if_neg (by simp)] at i3
            subst i3
            obtain rfl := hk2 (by simp)
            simp only [qb3 (qci hne3), qb4 (qci hne3), qbz, hlen, ← qz]
            simp only [go_sem, ↓reduceIte, Nat.reduceEqDiff, Nat.reduceAdd, Nat.reduceSub, Nat.reduceMul, Nat.reduceLT, Nat.reduceLeDiff, reduceCtorEq, Int.reduceToNat]
            all_goals first | (rw [qz]; exact qcb _ _) | exact ⟨rfl, rfl⟩ | rfl | (rw [qz, qcb, qc5]; exact ⟨rfl, rfl⟩)
          · have ht : (qt d' [59]).2 = true := by assumption
            have hi : isK (qt d' [59]).1 [125] = true := by assumption
            rw [ht, hi, Bool.true_and, Bool.not_true, if_neg (by simp)] at i3
            subst i3
            obtain rfl := hk2 (by simp)
            simp only [qb3 (qci hne3), qb4 (qci hne3), qbz, hlen, ← qz]
            simp only [go_sem, ↓reduceIte, Nat.reduceEqDiff, Nat.reduceAdd, Nat.reduceSub, Nat.reduceMul, Nat.reduceLT, Nat.reduceLeDiff, reduceCtorEq, Int.reduceToNat]
            all_goals first | (rw [qz]; exact qcb _ _) | exact ⟨rfl, rfl⟩ | rfl | (rw [qz, qcb, qc5]; exact ⟨rfl, rfl⟩)
          · have ht : (qt d' [59]).2 = true := by assumption
            have hi : isK (qt d' [59]).1 [125] = false := by assumption
            rw [ht, hi, Bool.true_and, Bool.not_false, if_pos rfl] at i3
            have htl := qem ht
            refine qbn (fu, (qt d' [59]).1, [] ++ [n]) [0, 1, 2] ⟨⟨hta, by simp only; omega, i3, by simp only; omega, by simp only [hlen]; omega⟩, by simp only; omega⟩ rfl (by simp) ?_ ?_ ?_
            all_goals simp only [quh, qb3 (qci hne3), qb4 (qci hne3), qbz, hlen, ← qz]
            all_goals simp only [go_sem, ↓reduceIte, Nat.reduceEqDiff, Nat.reduceAdd, Nat.reduceSub, Nat.reduceMul, Nat.reduceLT, Nat.reduceLeDiff, reduceCtorEq, Int.reduceToNat]
            all_goals first | (rw [qz]; exact qcb _ _) | exact ⟨rfl, rfl⟩ | rfl | (rw [qz, qcb, qc5]; exact ⟨rfl, rfl⟩)
        · have hne := qci h0
          simp only [qb4 hne, qb3 hne, qbz]
          repeat' (first | refine ql ?_ | refine qk ?_ | ((first | refine qn ?_ | refine qm ?_ | refine qi ?_ | refine qh ?_ | refine qsb hclo ?_); simp only [go_sem, ↓reduceIte, Nat.reduceEqDiff, Nat.reduceAdd, Nat.reduceSub, Nat.reduceMul, Nat.reduceLT, Nat.reduceLeDiff, reduceCtorEq, Int.reduceToNat]) | ((first | refine qf ?_ ?_ | refine qe ?_ ?_) <;> intro hc <;> simp only [hc, go_sem, ↓reduceIte, Nat.reduceEqDiff, Nat.reduceAdd, Nat.reduceSub, Nat.reduceMul, Nat.reduceLT, Nat.reduceLeDiff, reduceCtorEq, Int.reduceToNat] <;> (try simp only [qb, qa, decide_eq_true_eq, decide_eq_false_iff_not, Bool.and_eq_true] at hc)) | refine And.intro (by first | assumption | omega | (have := qg (by assumption); omega) | (unfold qp; omega)) ?_ | fail)
          refine qb4y (af' := ⟨[(0, .ptr 0 0), (1, .fn g [] [.ptr 1 0]), (6, .row 2 (acc.length + 1))], []⟩) (H' := [curE d', .blk [.ptr 0 0], .app 5 (encs (acc ++ [n]))]) ?_ (qbgc [0, 1, 4] rfl (by simp) ?_ ?_ ?_)
          rotate_left
          all_goals (try simp only [← qz, List.nil_append, encs, List.length_nil])
          all_goals (try simp only [go_sem, ↓reduceIte, Nat.reduceEqDiff, Nat.reduceAdd, Nat.reduceSub, Nat.reduceMul, Nat.reduceLT, Nat.reduceLeDiff, reduceCtorEq, Int.reduceToNat])
          all_goals (try (rw [qz, qcb, qc5]; exact ⟨rfl, rfl⟩))
          subst h9
          have hta : (qt d' [59]).1.good := (q8 _ _).1 j1
          have htr := (q8 d' [59]).2.1
          have hne3 : ¬ acc ++ [n] = [] := by simp
          have hlen : (acc ++ [n]).length = acc.length + 1 := by simp
          repeat' (first | refine ql ?_ | refine qk ?_ | ((first | refine qn ?_ | refine qm ?_ | refine qi ?_ | refine qh ?_ | refine qfh j1.ok ?_ | refine a_Is ?_ | refine qd2 hta.ok ?_); simp only [go_sem, ↓reduceIte, Nat.reduceEqDiff, Nat.reduceAdd, Nat.reduceSub, Nat.reduceMul, Nat.reduceLT, Nat.reduceLeDiff, reduceCtorEq, Int.reduceToNat]) | ((first | refine qf ?_ ?_ | refine qe ?_ ?_) <;> intro hc <;> simp only [hc, go_sem, ↓reduceIte, Nat.reduceEqDiff, Nat.reduceAdd, Nat.reduceSub, Nat.reduceMul, Nat.reduceLT, Nat.reduceLeDiff, reduceCtorEq, Int.reduceToNat] <;> (try simp only [qb, qa, decide_eq_true_eq, decide_eq_false_iff_not, Bool.and_eq_true] at hc)) | refine And.intro (by first | assumption | omega | (have := qg (by assumption); omega) | (unfold qp; omega)) ?_ | fail)
          · have ht : (qt d' [59]).2 = false := by assumption
            rw [ht, Bool.false_and, if_neg (by simp)] at i3
            subst i3
            obtain rfl := hk2 (by simp)
            simp only [qb3 (qci hne3), qb4 (qci hne3), qbz, hlen, ← qz]
            simp only [go_sem, ↓reduceIte, Nat.reduceEqDiff, Nat.reduceAdd, Nat.reduceSub, Nat.reduceMul, Nat.reduceLT, Nat.reduceLeDiff, reduceCtorEq, Int.reduceToNat]
            all_goals first | (rw [qz]; exact qcb _ _) | exact ⟨rfl, rfl⟩ | rfl | (rw [qz, qcb, qc5]; exact ⟨rfl, rfl⟩)
          · have ht : (qt d' [59]).2 = true := by assumption
            have hi : isK (qt d' [59]).1 [125] = true := by assumption
            rw [ht, hi, Bool.true_and, Bool.not_true, if_neg (by simp)] at i3
            subst i3
            obtain rfl := hk2 (by simp)
            simp only [qb3 (qci hne3), qb4 (qci hne3), qbz, hlen, ← qz]
            simp only [go_sem, ↓reduceIte, Nat.reduceEqDiff, Nat.reduceAdd, Nat.reduceSub, Nat.reduceMul, Nat.reduceLT, Nat.reduceLeDiff, reduceCtorEq, Int.reduceToNat]
            all_goals first | (rw [qz]; exact qcb _ _) | exact ⟨rfl, rfl⟩ | rfl | (rw [qz, qcb, qc5]; exact ⟨rfl, rfl⟩)
          · have ht : (qt d' [59]).2 = true := by assumption
            have hi : isK (qt d' [59]).1 [125] = false := by assumption
            rw [ht, hi, Bool.true_and, Bool.not_false, if_pos rfl] at i3
            have htl := qem ht
            refine qbn (fu, (qt d' [59]).1, acc ++ [n]) [0, 1, 2] ⟨⟨hta, by simp only; omega, i3, by simp only; omega, by simp only [hlen]; omega⟩, by simp only; omega⟩ rfl (by simp) ?_ ?_ ?_
            all_goals simp only [quh, qb3 (qci hne3), qb4 (qci hne3), qbz, hlen, ← qz]
            all_goals simp only [go_sem, ↓reduceIte, Nat.reduceEqDiff, Nat.reduceAdd, Nat.reduceSub, Nat.reduceMul, Nat.reduceLT, Nat.reduceLeDiff, reduceCtorEq, Int.reduceToNat]
            all_goals first | (rw [qz]; exact qcb _ _) | exact ⟨rfl, rfl⟩ | rfl | (rw [qz, qcb, qc5]; exact ⟨rfl, rfl⟩)
  · have hpa : qbr rd c = ((qv c [123]).1, [], false) := by rw [qbr, if_neg hw]
    rw [hpa] at hk1 hk2 ⊢
    obtain rfl := hk1 rfl
    repeat' (first | refine ql ?_ | refine qk ?_ | ((first | refine qn ?_ | refine qm ?_ | refine qi ?_ | refine qh ?_); simp (disch := first | omega | (simp only [List.length_set, List.length_append, List.length_cons, List.length_nil]; done) | (simp only [List.length_set, List.length_append, List.length_cons, List.length_nil]; omega)) only [hw, go_sem, ↓reduceIte, Nat.reduceEqDiff, Nat.reduceAdd, Nat.reduceSub, Nat.reduceMul, Nat.reduceLT, Nat.reduceLeDiff, reduceCtorEq, Int.reduceToNat]) | ((first | refine qf ?_ ?_ | refine qe ?_ ?_) <;> intro hc <;> simp only [hc, go_sem, ↓reduceIte, Nat.reduceEqDiff, Nat.reduceAdd, Nat.reduceSub, Nat.reduceMul, Nat.reduceLT, Nat.reduceLeDiff, reduceCtorEq, Int.reduceToNat] <;> (try simp only [qb, qa, decide_eq_true_eq, decide_eq_false_iff_not, Bool.and_eq_true] at hc)) | refine And.intro (by first | assumption | omega | (have := qg (by assumption); omega) | (unfold qp; omega)) ?_ | fail | ((first | refine qd2 hg.ok ?_); simp only [go_sem, ↓reduceIte, Nat.reduceEqDiff, Nat.reduceAdd, Nat.reduceSub, Nat.reduceMul, Nat.reduceLT, Nat.reduceLeDiff, reduceCtorEq, Int.reduceToNat]))
    exact ⟨rfl, rfl⟩
set_option maxRecDepth 4000

theorem qmw {rd : K → R3} (hd : ∀ c, Mon c (rd c).1) (hl : ∀ c, (rd c).2.2 = true → rest (rd c).1 < rest c) : ∀ (f : Nat) (c : K) (acc : List N), (qb7 rd f c acc).2.1.length ≤ acc.length + rest c
  | 0, c, acc => by simp [qb7]
  | f + 1, c, acc => by
    rw [qb7]
    split
    · rename_i h
      have h1 := hl c h
      split
      · have h2 := qmw hd hl f (qt (rd c).1 [59]).1 (acc ++ [(rd c).2.1])
        have h3 := (q8 (rd c).1 [59]).2.1
        simp only [List.length_append, List.length_cons, List.length_nil] at h2
        omega
      · simp only [List.length_append, List.length_cons, List.length_nil]; omega
    · simp
theorem qny {rd : K → R3} (hd : ∀ c, Mon c (rd c).1) (hl : ∀ c, (rd c).2.2 = true → rest (rd c).1 < rest c) (c : K) : (qbr rd c).2.1.length ≤ rest c := by
  unfold qbr
  split
  · have h1 := qmw hd hl (rest (qv c [123]).1 + 1) (qv c [123]).1 []
    have h2 := (qq c [123]).2.1
    simp only [List.length_nil] at h1
    omega
  · simp
theorem qn3 {rd : K → R3} : ∀ (f : Nat) (c : K) (acc : List N), (qb7 rd f c acc).2.2 = true → (qb7 rd f c acc).2.1 ≠ []
  | 0, c, acc => fun h => by cases h
  | f + 1, c, acc => fun h => by
    rw [qb7] at h ⊢
    split at h
    · rename_i h1
      rw [if_pos h1]
      split at h
      · rename_i h2
        rw [if_pos h2]
        exact qn3 f _ _ h
      · rename_i h2
        rw [if_neg h2]
        simp
    · cases h
theorem qmd {rd : K → R3} {c : K} (h : (qbr rd c).2.2 = true) : (qbr rd c).2.1 ≠ [] := by
  unfold qbr at h ⊢
  split at h
  · rename_i h1
    rw [if_pos h1]
    exact qn3 _ _ _ h
  · cases h
theorem qun {rd : K → R3} {g : FuncId} {c : K} (h : qnb rd g c) (h0 : (qbr rd c).2.1 = []) {L : List Ent} {Q : List Ent → VO → Prop} (hq : Q (curE (qbr rd c).1 :: .blk [.ptr 0 0] :: L) (.val (.tup [.nils, .bool (qbr rd c).2.2]))) :
    VApp Tryz.prog (curE c :: .blk [.ptr 0 0] :: L) (.fn 88 [] []) [.ptr 0 0, .fn g [] [.ptr 1 0]] Q :=
  qhw (first := []) (caps := []) (by
    simp only [List.nil_append, List.append_nil]
    refine qju (H0 := [curE c, .blk [.ptr 0 0]]) (L := L) h (qnc c) rfl ?_
    rintro H1 o ⟨rfl, rfl⟩
    rw [h0]
    exact ⟨rfl, qnc _, rfl, hq⟩)
theorem qs3 {rd : K → R3} {g : FuncId} {c : K} (h : qnb rd g c) (h0 : (qbr rd c).2.1 ≠ []) {L : List Ent} {Q : List Ent → VO → Prop}
    (hq : Q (curE (qbr rd c).1 :: .blk [.ptr 0 0] :: (L ++ [.app 5 (encs (qbr rd c).2.1)])) (.val (.tup [.row (L.length + 2) (qbr rd c).2.1.length, .bool (qbr rd c).2.2]))) :
    VApp Tryz.prog (curE c :: .blk [.ptr 0 0] :: L) (.fn 88 [] []) [.ptr 0 0, .fn g [] [.ptr 1 0]] Q :=
  qhw (first := []) (caps := []) (by
    simp only [List.nil_append, List.append_nil]
    have hne := qci h0
    have hs : AV.rens (sg [0, 1]) [.ptr 0 0, .fn g [] [.ptr 1 0]] = [.ptr 0 0, .fn g [] [.ptr 1 0]] := rfl
    rw [← hs]
    have ha : AV.bds 2 [.ptr 0 0, .fn g [] [.ptr 1 0]] = true := rfl
    have napp_ren : ∀ σ : Nat → Nat, (Ent.app 5 (encs (qbr rd c).2.1)).ren σ = .app 5 (encs (qbr rd c).2.1) := fun σ => Ent.ren_same (m := 0) (fun i hi => by omega) _ (by simp [Ent.bd, qcb])
    have hp : ∀ σ : Nat → Nat, σ 0 = 0 → (Ent.blk [.ptr 0 0]).ren σ = .blk [.ptr 0 0] := fun σ h => by simp [Ent.ren, AV.rens, AV.ren, h]
    refine qgr (H0 := [curE c, .blk [.ptr 0 0]]) [0, 1] h (by simp) (by simp) rfl ?_ ha ?_
    · intro j e2 hj
      have hj2 : j < 2 := by have := (List.getElem?_eq_some_iff.1 hj).1; simpa using this
      have : j = 0 ∨ j = 1 := by omega
      rcases this with rfl | rfl
      · simp only [List.getElem?_cons_zero, Option.some.injEq] at hj
        subst hj
        exact .inr ⟨qbm _ _, by rw [qno]; rfl⟩
      · simp only [List.getElem?_cons_succ, List.getElem?_cons_zero, Option.some.injEq] at hj
        subst hj
        exact .inr ⟨rfl, rfl⟩
    rintro H1 o ⟨rfl, rfl⟩
    have hq2 : (Ent.blk [.ptr 0 0]).ren (sg' [0, 1] (L.length + 1 + 1)) = .blk [.ptr 0 0] := hp _ rfl
    simp only [qb3 hne, qb4 hne, qbz, List.length_cons, List.length_nil, List.take_succ_cons, List.take_zero, List.map_nil, qcn, List.drop_zero, List.drop_succ_cons, List.map_cons, qno, napp_ren, hq2, VO.ren, AV.ren, AV.rens, List.set_cons_zero, List.set_cons_succ]
    exact hq)
def posZ (p : Int) : AV := .agg [.int .i64 0, .int .i64 p, .int .i64 0, .str [], .nils]
theorem qlt (p : Int) : AV.agg [.int .i64 0, .int .i64 p, .int .i64 0, .str [], .sl 5 []] = enc (posN p) := by simp only [posN, enc, encs]
theorem qn4 (p e : N) : AV.agg [.int .i64 15, .int .i64 p.pos, .int .i64 0, .str [], .sl 5 [enc p, enc e]] = enc (altN p e) := by simp only [altN, enc, encs]
section
variable {rec : K → K × Option N} {b : Nat} (ih : ∀ c, c.good → rest c < b → qcp Tryz.prog 10 (curE c) (curE (rec c).1) [.ptr 0 0] (resP (rec c).2))
include ih
theorem q66 (c : K) (hg : c.good) (hr : rest c ≤ b) : VClo 89 c (ofO (qcd rec c)).1 (ofO (qcd rec c)).2 := by
  refine qbe c0u 2 (by simp) (by simp) ?_
  repeat' (first | refine ql ?_ | ((first | refine qn ?_ | refine qm ?_ | refine qdt (qzs ih c hg hr) rfl ?_); simp only [go_sem, ↓reduceIte, Nat.reduceEqDiff, Nat.reduceAdd, Nat.reduceSub, Nat.reduceMul, Nat.reduceLT, Nat.reduceLeDiff, reduceCtorEq, Int.reduceToNat]) | ((first | refine qf ?_ ?_ | refine qe ?_ ?_) <;> intro hc <;> simp only [hc, go_sem, ↓reduceIte, Nat.reduceEqDiff, Nat.reduceAdd, Nat.reduceSub, Nat.reduceMul, Nat.reduceLT, Nat.reduceLeDiff, reduceCtorEq, Int.reduceToNat] <;> (try simp only [qb, qa, decide_eq_true_eq, decide_eq_false_iff_not, Bool.and_eq_true] at hc)) | refine And.intro (by first | assumption | omega | (have := qg (by assumption); omega) | (unfold qp; omega)) ?_ | fail)
  exact ⟨rfl, rfl⟩
theorem qz3 (c : K) (hg : c.good) (hr : rest c ≤ b) : VClo 90 c (qeu rec c).1 (qeu rec c).2 := by
  have hp := qbgh (rest c + 2) c hg (by omega)
  have g1 : (qcu (rest c + 2) c).1.good := (qek _ c).1 hg
  have hr1 : rest (qcu (rest c + 2) c).1 ≤ b := by have := (qek (rest c + 2) c).2.1; omega
  refine qbe c0v 2 (by simp) (by simp) ?_
  unfold qeu
  generalize qcu (rest c + 2) c = r at *
  obtain ⟨d, o⟩ := r
  simp only at hp g1 hr1 ⊢
  have g2 : (qv d [45, 62]).1.good := (qq _ _).1 g1
  have hlt : (qv d [45, 62]).2 = true → rest (qv d [45, 62]).1 < b := fun h => by have := qg0 h; omega
  unfold altB altC
  cases o with
  | none =>
    repeat' (first | refine ql ?_ | ((first | refine qn ?_ | refine qm ?_ | refine qi ?_ | refine qh ?_); simp (disch := first | omega | (simp only [List.length_set, List.length_append, List.length_cons, List.length_nil]; done) | (simp only [List.length_set, List.length_append, List.length_cons, List.length_nil]; omega)) only [Option.isSome_none, Option.getD_none, go_sem, ↓reduceIte, Nat.reduceEqDiff, Nat.reduceAdd, Nat.reduceSub, Nat.reduceMul, Nat.reduceLT, Nat.reduceLeDiff, reduceCtorEq, Int.reduceToNat]) | ((first | refine qf ?_ ?_ | refine qe ?_ ?_) <;> intro hc <;> simp only [hc, go_sem, ↓reduceIte, Nat.reduceEqDiff, Nat.reduceAdd, Nat.reduceSub, Nat.reduceMul, Nat.reduceLT, Nat.reduceLeDiff, reduceCtorEq, Int.reduceToNat] <;> (try simp only [qb, qa, decide_eq_true_eq, decide_eq_false_iff_not, Bool.and_eq_true] at hc)) | refine And.intro (by first | assumption | omega | (have := qg (by assumption); omega) | (unfold qp; omega)) ?_ | fail | ((first | refine qdt hp rfl ?_); simp only [go_sem, ↓reduceIte, Nat.reduceEqDiff, Nat.reduceAdd, Nat.reduceSub, Nat.reduceMul, Nat.reduceLT, Nat.reduceLeDiff, reduceCtorEq, Int.reduceToNat]))
    all_goals (try rfl)
  | some p =>
    by_cases hw : (qv d [45, 62]).2 = true
    · have hr := ih _ g2 (hlt hw)
      repeat' (first | refine ql ?_ | ((first | refine qn ?_ | refine qm ?_ | refine qi ?_ | refine qh ?_); simp (disch := first | omega | (simp only [List.length_set, List.length_append, List.length_cons, List.length_nil]; done) | (simp only [List.length_set, List.length_append, List.length_cons, List.length_nil]; omega)) only [hw, Option.isSome_some, Option.getD_some, go_sem, ↓reduceIte, Nat.reduceEqDiff, Nat.reduceAdd, Nat.reduceSub, Nat.reduceMul, Nat.reduceLT, Nat.reduceLeDiff, reduceCtorEq, Int.reduceToNat]) | ((first | refine qf ?_ ?_ | refine qe ?_ ?_) <;> intro hc <;> simp only [hc, go_sem, ↓reduceIte, Nat.reduceEqDiff, Nat.reduceAdd, Nat.reduceSub, Nat.reduceMul, Nat.reduceLT, Nat.reduceLeDiff, reduceCtorEq, Int.reduceToNat] <;> (try simp only [qb, qa, decide_eq_true_eq, decide_eq_false_iff_not, Bool.and_eq_true] at hc)) | refine And.intro (by first | assumption | omega | (have := qg (by assumption); omega) | (unfold qp; omega)) ?_ | fail | ((first | refine qdt hp rfl ?_ | refine qd2 g1.ok ?_ | refine qdt hr rfl ?_); simp only [go_sem, ↓reduceIte, Nat.reduceEqDiff, Nat.reduceAdd, Nat.reduceSub, Nat.reduceMul, Nat.reduceLT, Nat.reduceLeDiff, reduceCtorEq, Int.reduceToNat]))
      all_goals first | (rw [qn4]; done) | (rw [qn4]; rfl) | (rw [qn4]; exact ⟨rfl, rfl⟩)
    · repeat' (first | refine ql ?_ | ((first | refine qn ?_ | refine qm ?_ | refine qi ?_ | refine qh ?_); simp (disch := first | omega | (simp only [List.length_set, List.length_append, List.length_cons, List.length_nil]; done) | (simp only [List.length_set, List.length_append, List.length_cons, List.length_nil]; omega)) only [hw, Option.isSome_some, Option.getD_some, go_sem, ↓reduceIte, Nat.reduceEqDiff, Nat.reduceAdd, Nat.reduceSub, Nat.reduceMul, Nat.reduceLT, Nat.reduceLeDiff, reduceCtorEq, Int.reduceToNat]) | ((first | refine qf ?_ ?_ | refine qe ?_ ?_) <;> intro hc <;> simp only [hc, go_sem, ↓reduceIte, Nat.reduceEqDiff, Nat.reduceAdd, Nat.reduceSub, Nat.reduceMul, Nat.reduceLT, Nat.reduceLeDiff, reduceCtorEq, Int.reduceToNat] <;> (try simp only [qb, qa, decide_eq_true_eq, decide_eq_false_iff_not, Bool.and_eq_true] at hc)) | refine And.intro (by first | assumption | omega | (have := qg (by assumption); omega) | (unfold qp; omega)) ?_ | fail | ((first | refine qdt hp rfl ?_ | refine qd2 g1.ok ?_); simp only [go_sem, ↓reduceIte, Nat.reduceEqDiff, Nat.reduceAdd, Nat.reduceSub, Nat.reduceMul, Nat.reduceLT, Nat.reduceLeDiff, reduceCtorEq, Int.reduceToNat]))
      all_goals (try rfl)
end
set_option maxRecDepth 4000

theorem qbk3 (p : Int) (l : List N) (k : N) : AV.agg [.int .i64 26, .int .i64 p, .int .i64 0, .str [], .sl 5 (encs l ++ [enc k])] = enc (.mk 26 p 0 [] (l ++ [k])) := by simp only [enc, qz]
section
variable {rec : K → K × Option N} {b : Nat} (hm : ∀ c, Mon c (rec c).1) (ih : ∀ c, c.good → rest c < b → qcp Tryz.prog 10 (curE c) (curE (rec c).1) [.ptr 0 0] (resP (rec c).2))
include hm ih
theorem qbsb (p : Int) (c : K) (hg : c.good) (hr : rest c ≤ b) : qcp Tryz.prog 55 (curE c) (curE (qhz rec p c).1) [.ptr 0 0, posZ p] (resB (qhz rec p c).2) := by
  have hd : ∀ c, Mon c (ofO (qcd rec c)).1 := fun c => qfu hm c
  have hl : ∀ c, (ofO (qcd rec c)).2.2 = true → rest (ofO (qcd rec c)).1 < rest c := fun c h => qmg hm h
  have hS := qyj (g := 89) hd hl (fun c g r => q66 ih c g r) c hg hr
  have hlen := qny hd hl c
  have hne := @qmd (fun c => ofO (qcd rec c)) c
  have g1 : (qbr (fun c => ofO (qcd rec c)) c).1.good := (qf2 hd c).1 hg
  have hr1 : rest (qbr (fun c => ofO (qcd rec c)) c).1 ≤ b := by have := (qf2 hd c).2.1; omega
  have happ0 := @qun _ _ _ hS
  have happ1 := @qs3 _ _ _ hS
  have hgr := hg.rest
  clear hS hd hl
  refine qbe c0q 1 (by simp) (by simp [posZ]) ?_
  unfold qhz posZ
  generalize qbr (fun c => ofO (qcd rec c)) c = L at *
  obtain ⟨d, l, ok⟩ := L
  simp only at hlen hne g1 hr1 happ0 happ1
  have g2 : (qv d [105, 110]).1.good := (qq _ _).1 g1
  have hlt : (qv d [105, 110]).2 = true → rest (qv d [105, 110]).1 < b := fun h => by have := qg0 h; omega
  have hcap : qp (l.length + 1) 64 := capN (by unfold rest at hlen; omega)
  unfold letB letC
  by_cases h0 : l = []
  · subst h0
    have ok0 : ok = false := by cases ok with | false => rfl | true => exact absurd rfl (hne rfl)
    subst ok0
    repeat' (first | refine ql ?_ | ((first | refine qn ?_ | refine qm ?_ | refine qi ?_ | refine qh ?_ | refine happ0 rfl ?_); simp only [go_sem, ↓reduceIte, Nat.reduceEqDiff, Nat.reduceAdd, Nat.reduceSub, Nat.reduceMul, Nat.reduceLT, Nat.reduceLeDiff, reduceCtorEq, Int.reduceToNat]) | ((first | refine qf ?_ ?_ | refine qe ?_ ?_) <;> intro hc <;> simp only [hc, go_sem, ↓reduceIte, Nat.reduceEqDiff, Nat.reduceAdd, Nat.reduceSub, Nat.reduceMul, Nat.reduceLT, Nat.reduceLeDiff, reduceCtorEq, Int.reduceToNat] <;> (try simp only [qb, qa, decide_eq_true_eq, decide_eq_false_iff_not, Bool.and_eq_true] at hc)) | refine And.intro (by first | assumption | omega | (have := qg (by assumption); omega) | (unfold qp; omega)) ?_ | fail)
    all_goals (try rw [qlt])
    all_goals (try exact ⟨rfl, rfl⟩)
  · cases ok with
    | false =>
      repeat' (first | refine ql ?_ | ((first | refine qn ?_ | refine qm ?_ | refine qi ?_ | refine qh ?_ | refine happ1 h0 ?_); simp only [go_sem, ↓reduceIte, Nat.reduceEqDiff, Nat.reduceAdd, Nat.reduceSub, Nat.reduceMul, Nat.reduceLT, Nat.reduceLeDiff, reduceCtorEq, Int.reduceToNat]) | ((first | refine qf ?_ ?_ | refine qe ?_ ?_) <;> intro hc <;> simp only [hc, go_sem, ↓reduceIte, Nat.reduceEqDiff, Nat.reduceAdd, Nat.reduceSub, Nat.reduceMul, Nat.reduceLT, Nat.reduceLeDiff, reduceCtorEq, Int.reduceToNat] <;> (try simp only [qb, qa, decide_eq_true_eq, decide_eq_false_iff_not, Bool.and_eq_true] at hc)) | refine And.intro (by first | assumption | omega | (have := qg (by assumption); omega) | (unfold qp; omega)) ?_ | fail)
      all_goals (try rw [qlt])
      all_goals (try exact ⟨rfl, rfl⟩)
    | true =>
      by_cases hw : (qv d [105, 110]).2 = true
      · have hr := ih _ g2 (hlt hw)
        repeat' (first | refine ql ?_ | ((first | refine qn ?_ | refine qm ?_ | refine qi ?_ | refine qh ?_); simp (disch := first | omega | (simp only [List.length_set, List.length_append, List.length_cons, List.length_nil]; done) | (simp only [List.length_set, List.length_append, List.length_cons, List.length_nil]; omega)) only [hw, go_sem, ↓reduceIte, Nat.reduceEqDiff, Nat.reduceAdd, Nat.reduceSub, Nat.reduceMul, Nat.reduceLT, Nat.reduceLeDiff, reduceCtorEq, Int.reduceToNat]) | ((first | refine qf ?_ ?_ | refine qe ?_ ?_) <;> intro hc <;> simp only [hc, go_sem, ↓reduceIte, Nat.reduceEqDiff, Nat.reduceAdd, Nat.reduceSub, Nat.reduceMul, Nat.reduceLT, Nat.reduceLeDiff, reduceCtorEq, Int.reduceToNat] <;> (try simp only [qb, qa, decide_eq_true_eq, decide_eq_false_iff_not, Bool.and_eq_true] at hc)) | refine And.intro (by first | assumption | omega | (have := qg (by assumption); omega) | (unfold qp; omega)) ?_ | fail | ((first | refine happ1 h0 ?_ | refine qd2 g1.ok ?_ | refine qdt hr rfl ?_); simp only [go_sem, ↓reduceIte, Nat.reduceEqDiff, Nat.reduceAdd, Nat.reduceSub, Nat.reduceMul, Nat.reduceLT, Nat.reduceLeDiff, reduceCtorEq, Int.reduceToNat]))
        all_goals (try rw [qbk3])
        all_goals exact ⟨by rw [qz, qcb], rfl⟩
      · repeat' (first | refine ql ?_ | ((first | refine qn ?_ | refine qm ?_ | refine qi ?_ | refine qh ?_); simp (disch := first | omega | (simp only [List.length_set, List.length_append, List.length_cons, List.length_nil]; done) | (simp only [List.length_set, List.length_append, List.length_cons, List.length_nil]; omega)) only [hw, go_sem, ↓reduceIte, Nat.reduceEqDiff, Nat.reduceAdd, Nat.reduceSub, Nat.reduceMul, Nat.reduceLT, Nat.reduceLeDiff, reduceCtorEq, Int.reduceToNat]) | ((first | refine qf ?_ ?_ | refine qe ?_ ?_) <;> intro hc <;> simp only [hc, go_sem, ↓reduceIte, Nat.reduceEqDiff, Nat.reduceAdd, Nat.reduceSub, Nat.reduceMul, Nat.reduceLT, Nat.reduceLeDiff, reduceCtorEq, Int.reduceToNat] <;> (try simp only [qb, qa, decide_eq_true_eq, decide_eq_false_iff_not, Bool.and_eq_true] at hc)) | refine And.intro (by first | assumption | omega | (have := qg (by assumption); omega) | (unfold qp; omega)) ?_ | fail | ((first | refine happ1 h0 ?_ | refine qd2 g1.ok ?_); simp only [go_sem, ↓reduceIte, Nat.reduceEqDiff, Nat.reduceAdd, Nat.reduceSub, Nat.reduceMul, Nat.reduceLT, Nat.reduceLeDiff, reduceCtorEq, Int.reduceToNat]))
        all_goals (try rw [qlt])
        all_goals (try exact ⟨rfl, rfl⟩)
theorem q3d (p : Int) (c : K) (hg : c.good) (hr : rest c < b) : qcp Tryz.prog 56 (curE c) (curE (qf0 rec p c).1) [.ptr 0 0, posZ p] (resB (qf0 rec p c).2) := by
  have hd : ∀ c, Mon c (qeu rec c).1 := fun c => qj1 hm c
  have hl : ∀ c, (qeu rec c).2.2 = true → rest (qeu rec c).1 < rest c := fun c h => qof hm h
  have hx := ih c hg hr
  have g1 : (rec c).1.good := (hm c).1 hg
  have hr1 := (hm c).2.1
  refine qbe c0r 1 (by simp) (by simp [posZ]) ?_
  unfold qf0 posZ
  generalize rec c = r0 at *
  obtain ⟨d0, o⟩ := r0
  simp only at g1 hr1 hx ⊢
  have g2 : (qv d0 [111, 102]).1.good := (qq _ _).1 g1
  have hr2 : rest (qv d0 [111, 102]).1 ≤ b := by have := (qq d0 [111, 102]).2.1; omega
  have hS := qyj (g := 90) hd hl (fun c g r => qz3 ih c g r) (qv d0 [111, 102]).1 g2 hr2
  have hlen := qny hd hl (qv d0 [111, 102]).1
  have happ0 := @qun _ _ _ hS
  have happ1 := @qs3 _ _ _ hS
  have hgr := g2.rest
  clear hS hd hl
  unfold qzx qy5
  cases o with
  | none =>
    repeat' (first | refine ql ?_ | ((first | refine qn ?_ | refine qm ?_ | refine qi ?_ | refine qh ?_); simp (disch := first | omega | (simp only [List.length_set, List.length_append, List.length_cons, List.length_nil]; done) | (simp only [List.length_set, List.length_append, List.length_cons, List.length_nil]; omega)) only [Option.isSome_none, Option.getD_none, go_sem, ↓reduceIte, Nat.reduceEqDiff, Nat.reduceAdd, Nat.reduceSub, Nat.reduceMul, Nat.reduceLT, Nat.reduceLeDiff, reduceCtorEq, Int.reduceToNat]) | ((first | refine qf ?_ ?_ | refine qe ?_ ?_) <;> intro hc <;> simp only [hc, go_sem, ↓reduceIte, Nat.reduceEqDiff, Nat.reduceAdd, Nat.reduceSub, Nat.reduceMul, Nat.reduceLT, Nat.reduceLeDiff, reduceCtorEq, Int.reduceToNat] <;> (try simp only [qb, qa, decide_eq_true_eq, decide_eq_false_iff_not, Bool.and_eq_true] at hc)) | refine And.intro (by first | assumption | omega | (have := qg (by assumption); omega) | (unfold qp; omega)) ?_ | fail | ((first | refine qdt hx rfl ?_); simp only [go_sem, ↓reduceIte, Nat.reduceEqDiff, Nat.reduceAdd, Nat.reduceSub, Nat.reduceMul, Nat.reduceLT, Nat.reduceLeDiff, reduceCtorEq, Int.reduceToNat]))
    all_goals (try rw [qlt])
    all_goals (try exact ⟨rfl, rfl⟩)
  | some x =>
    by_cases hw : (qv d0 [111, 102]).2 = true
    · generalize qbr (qeu rec) (qv d0 [111, 102]).1 = L at *
      obtain ⟨d, l, ok⟩ := L
      simp only at hlen happ0 happ1 ⊢
      have hcap : qp (1 + l.length) 64 := capN (by unfold rest at hlen; omega)
      by_cases h0 : l = []
      · subst h0
        repeat' (first | refine ql ?_ | ((first | refine qn ?_ | refine qm ?_ | refine qi ?_ | refine qh ?_); simp (disch := first | omega | (simp only [List.length_set, List.length_append, List.length_cons, List.length_nil]; done) | (simp only [List.length_set, List.length_append, List.length_cons, List.length_nil]; omega)) only [hw, Option.isSome_some, Option.getD_some, go_sem, ↓reduceIte, Nat.reduceEqDiff, Nat.reduceAdd, Nat.reduceSub, Nat.reduceMul, Nat.reduceLT, Nat.reduceLeDiff, reduceCtorEq, Int.reduceToNat]) | ((first | refine qf ?_ ?_ | refine qe ?_ ?_) <;> intro hc <;> simp only [hc, go_sem, ↓reduceIte, Nat.reduceEqDiff, Nat.reduceAdd, Nat.reduceSub, Nat.reduceMul, Nat.reduceLT, Nat.reduceLeDiff, reduceCtorEq, Int.reduceToNat] <;> (try simp only [qb, qa, decide_eq_true_eq, decide_eq_false_iff_not, Bool.and_eq_true] at hc)) | refine And.intro (by first | assumption | omega | (have := qg (by assumption); omega) | (unfold qp; omega)) ?_ | fail | ((first | refine qdt hx rfl ?_ | refine qd2 g1.ok ?_ | refine happ0 rfl ?_); simp only [go_sem, ↓reduceIte, Nat.reduceEqDiff, Nat.reduceAdd, Nat.reduceSub, Nat.reduceMul, Nat.reduceLT, Nat.reduceLeDiff, reduceCtorEq, Int.reduceToNat]))
        all_goals (try simp only [enc, encs])
      · have hnl : ¬ l.length = 0 := fun h => h0 (List.length_eq_zero_iff.1 h)
        repeat' (first | refine ql ?_ | ((first | refine qn ?_ | refine qm ?_ | refine qi ?_ | refine qh ?_); simp (disch := first | omega | (simp only [List.length_set, List.length_append, List.length_cons, List.length_nil]; done) | (simp only [List.length_set, List.length_append, List.length_cons, List.length_nil]; omega)) only [hw, hnl, hcap, Option.isSome_some, Option.getD_some, go_sem, ↓reduceIte, Nat.reduceEqDiff, Nat.reduceAdd, Nat.reduceSub, Nat.reduceMul, Nat.reduceLT, Nat.reduceLeDiff, reduceCtorEq, Int.reduceToNat]) | ((first | refine qf ?_ ?_ | refine qe ?_ ?_) <;> intro hc <;> simp only [hc, go_sem, ↓reduceIte, Nat.reduceEqDiff, Nat.reduceAdd, Nat.reduceSub, Nat.reduceMul, Nat.reduceLT, Nat.reduceLeDiff, reduceCtorEq, Int.reduceToNat] <;> (try simp only [qb, qa, decide_eq_true_eq, decide_eq_false_iff_not, Bool.and_eq_true] at hc)) | refine And.intro (by first | assumption | omega | (have := qg (by assumption); omega) | (unfold qp; omega)) ?_ | fail | ((first | refine qdt hx rfl ?_ | refine qd2 g1.ok ?_ | refine happ1 h0 ?_); simp only [go_sem, ↓reduceIte, Nat.reduceEqDiff, Nat.reduceAdd, Nat.reduceSub, Nat.reduceMul, Nat.reduceLT, Nat.reduceLeDiff, reduceCtorEq, Int.reduceToNat]))
        have hcm : l.length + 1 = 1 + l.length := Nat.add_comm _ _
        simp only [hcm, if_true, enc, encs, AV.bd, AV.bds, qpf, qcb, Bool.and_true, and_self]
    · repeat' (first | refine ql ?_ | ((first | refine qn ?_ | refine qm ?_ | refine qi ?_ | refine qh ?_); simp (disch := first | omega | (simp only [List.length_set, List.length_append, List.length_cons, List.length_nil]; done) | (simp only [List.length_set, List.length_append, List.length_cons, List.length_nil]; omega)) only [hw, Option.isSome_some, Option.getD_some, go_sem, ↓reduceIte, Nat.reduceEqDiff, Nat.reduceAdd, Nat.reduceSub, Nat.reduceMul, Nat.reduceLT, Nat.reduceLeDiff, reduceCtorEq, Int.reduceToNat]) | ((first | refine qf ?_ ?_ | refine qe ?_ ?_) <;> intro hc <;> simp only [hc, go_sem, ↓reduceIte, Nat.reduceEqDiff, Nat.reduceAdd, Nat.reduceSub, Nat.reduceMul, Nat.reduceLT, Nat.reduceLeDiff, reduceCtorEq, Int.reduceToNat] <;> (try simp only [qb, qa, decide_eq_true_eq, decide_eq_false_iff_not, Bool.and_eq_true] at hc)) | refine And.intro (by first | assumption | omega | (have := qg (by assumption); omega) | (unfold qp; omega)) ?_ | fail | ((first | refine qdt hx rfl ?_ | refine qd2 g1.ok ?_); simp only [go_sem, ↓reduceIte, Nat.reduceEqDiff, Nat.reduceAdd, Nat.reduceSub, Nat.reduceMul, Nat.reduceLT, Nat.reduceLeDiff, reduceCtorEq, Int.reduceToNat]))
      all_goals (try rw [qlt])
      all_goals (try exact ⟨rfl, rfl⟩)
def q5c (p : Int) (x : Nat × K × List N) : AF × List Ent :=
  (⟨[(0, .ptr 0 0), (3, .ptr 1 0), (4, .ptr 2 0), (11, .agg (ifsW.map AV.str)), (12, .int .i64 x.1)], []⟩,
    curE x.2.1 :: .blk [.int .i64 28, .int .i64 p, .int .i64 0, .str [], accV 3 (encs x.2.2)] :: .blk [.int .i64 0, .int .i64 0, .int .i64 0, .str [], .nils] :: accE 5 (encs x.2.2))
theorem qblo (p : Int) (c : K) (hg : c.good) (hr : rest c < b) : qcp Tryz.prog 57 (curE c) (curE (qea rec p ifsW c []).1) [.ptr 0 0, posZ p] (resB (qea rec p ifsW c []).2) := by
  refine qbe c0s 1 (by simp) (by simp [posZ]) ?_
  unfold posZ
  generalize htg : qea rec p ifsW c [] = tg
  have hW : AV.agg (ifsW.map AV.str) = .agg [.str [], .str [116, 104, 101, 110], .str [101, 108, 115, 101]] := rfl
  repeat' (first | refine ql ?_ | refine qk ?_ | ((first | refine qn ?_ | refine qm ?_ | refine qs ?_ | refine qi ?_ | refine qh ?_); simp only [go_sem, ↓reduceIte, Nat.reduceEqDiff, Nat.reduceAdd, Nat.reduceSub, Nat.reduceMul, Nat.reduceLT, Nat.reduceLeDiff, reduceCtorEq, Int.reduceToNat]) | ((first | refine qf ?_ ?_ | refine qe ?_ ?_) <;> intro hc <;> simp only [hc, go_sem, ↓reduceIte, Nat.reduceEqDiff, Nat.reduceAdd, Nat.reduceSub, Nat.reduceMul, Nat.reduceLT, Nat.reduceLeDiff, reduceCtorEq, Int.reduceToNat] <;> (try simp only [qb, qa, decide_eq_true_eq, decide_eq_false_iff_not, Bool.and_eq_true] at hc)) | refine And.intro (by first | assumption | omega | (have := qg (by assumption); omega) | (unfold qp; omega)) ?_ | ((first | simp (disch := omega) only [qr] | simp (disch := omega) only [qbb]); (try simp only [go_sem, ↓reduceIte, Nat.reduceEqDiff, Nat.reduceAdd, Nat.reduceSub, Nat.reduceMul, Nat.reduceLT, Nat.reduceLeDiff, reduceCtorEq, Int.reduceToNat])))
  refine qby (S := Nat × K × List N) (fun x => x.1 ≤ 3 ∧ x.2.1.good ∧ rest x.2.1 < b ∧ qea rec p (ifsW.drop x.1) x.2.1 x.2.2 = tg ∧ x.2.2.length = x.1)
    (q5c p) (fun x => 3 - x.1) ?_ ?_
  · refine qbn (0, c, []) [0, 1, 2] ⟨by simp, hg, hr, htg, rfl⟩ rfl (by simp) ?_ ?_ ?_
    all_goals simp only [q5c, hW, encs, qbu, qbv]
    all_goals simp only [go_sem, ↓reduceIte, Nat.reduceEqDiff, Nat.reduceAdd, Nat.reduceSub, Nat.reduceMul, Nat.reduceLT, Nat.reduceLeDiff, reduceCtorEq, Int.reduceToNat]
  · rintro ⟨i, d, acc⟩ ⟨i1, i2, i3, i4, i5⟩
    simp only at i1 i2 i3 i4 i5
    unfold q5c
    by_cases hlt : i < 3
    · have hil : (i : Int) < 3 := by omega
      have hd := qo2 (ls := ifsW) (i := i) (by simpa [ifsW] using hlt)
      rw [hd, qea] at i4
      have hw0 : ifsW.getD i [] = [] ↔ i = 0 := by
        have : i = 0 ∨ i = 1 ∨ i = 2 := by omega
        rcases this with rfl | rfl | rfl <;> simp [ifsW]
      have hln : (ifsW.map AV.str).length = 3 := rfl
      have hln2 : i < ifsW.length := hlt
      have hget : (ifsW.map AV.str).getD i .junk = .str (ifsW.getD i []) := qtz hln2
      clear hd
      generalize ifsW.getD i [] = w at *
      have hab : ∀ k, AV.bds k (ifsW.map AV.str) = true := fun k => qsd k _
      have har : ∀ σ : Nat → Nat, AV.rens σ (ifsW.map AV.str) = ifsW.map AV.str := fun σ => qxz σ _
      generalize hW2 : ifsW.map AV.str = aw at *
      by_cases h0 : i = 0
      · subst h0
        have hw : w = [] := hw0.2 rfl
        have ha : acc = [] := List.length_eq_zero_iff.1 i5
        subst hw ha
        have hx := ih d i2 i3
        have g1 : (rec d).1.good := (hm d).1 i2
        have hr1 := (hm d).2.1
        rw [ifsK, if_pos rfl] at i4
        simp only [if_true] at i4
        generalize rec d = r at *
        obtain ⟨d', o⟩ := r
        simp only at g1 hr1 hx i4
        have hcap : qp 1 64 := capN (by omega)
        simp only [encs, qbu, qbv]
        cases o with
        | none =>
          rw [if_neg (by simp)] at i4
          subst i4
          repeat' (first | refine ql ?_ | refine qk ?_ | ((first | refine qn ?_ | refine qm ?_ | refine qs ?_ | refine qi ?_ | refine qh ?_); simp (disch := first | omega | (simp only [List.length_set, List.length_append, List.length_cons, List.length_nil]; done) | (simp only [List.length_set, List.length_append, List.length_cons, List.length_nil]; omega)) only [hil, hget, hln, ne_eq, not_true_eq_false, not_false_eq_true, decide_true, decide_false, Option.isSome_none, Option.isSome_some, Option.getD_none, Option.getD_some, go_sem, ↓reduceIte, Nat.reduceEqDiff, Nat.reduceAdd, Nat.reduceSub, Nat.reduceMul, Nat.reduceLT, Nat.reduceLeDiff, reduceCtorEq, Int.reduceToNat]) | ((first | refine qf ?_ ?_ | refine qe ?_ ?_) <;> intro hc <;> simp only [hc, go_sem, ↓reduceIte, Nat.reduceEqDiff, Nat.reduceAdd, Nat.reduceSub, Nat.reduceMul, Nat.reduceLT, Nat.reduceLeDiff, reduceCtorEq, Int.reduceToNat] <;> (try simp only [qb, qa, decide_eq_true_eq, decide_eq_false_iff_not, Bool.and_eq_true] at hc)) | refine And.intro (by first | assumption | omega | (have := qg (by assumption); omega) | (unfold qp; omega)) ?_ | ((first | simp (disch := omega) only [qr] | simp (disch := omega) only [qbb]); (try simp only [go_sem, ↓reduceIte, Nat.reduceEqDiff, Nat.reduceAdd, Nat.reduceSub, Nat.reduceMul, Nat.reduceLT, Nat.reduceLeDiff, reduceCtorEq, Int.reduceToNat])) | ((first | refine qdt hx rfl ?_); simp only [go_sem, ↓reduceIte, Nat.reduceEqDiff, Nat.reduceAdd, Nat.reduceSub, Nat.reduceMul, Nat.reduceLT, Nat.reduceLeDiff, reduceCtorEq, Int.reduceToNat]))
          all_goals first | (simp only [enc, encs]; done) | (exfalso; omega)
        | some n =>
          rw [if_pos (by rfl)] at i4
          repeat' (first | refine ql ?_ | refine qk ?_ | ((first | refine qn ?_ | refine qm ?_ | refine qs ?_ | refine qi ?_ | refine qh ?_); simp (disch := first | omega | (simp only [List.length_set, List.length_append, List.length_cons, List.length_nil]; done) | (simp only [List.length_set, List.length_append, List.length_cons, List.length_nil]; omega)) only [hil, hget, hln, ne_eq, not_true_eq_false, not_false_eq_true, decide_true, decide_false, Option.isSome_none, Option.isSome_some, Option.getD_none, Option.getD_some, go_sem, ↓reduceIte, Nat.reduceEqDiff, Nat.reduceAdd, Nat.reduceSub, Nat.reduceMul, Nat.reduceLT, Nat.reduceLeDiff, reduceCtorEq, Int.reduceToNat]) | ((first | refine qf ?_ ?_ | refine qe ?_ ?_) <;> intro hc <;> simp only [hc, go_sem, ↓reduceIte, Nat.reduceEqDiff, Nat.reduceAdd, Nat.reduceSub, Nat.reduceMul, Nat.reduceLT, Nat.reduceLeDiff, reduceCtorEq, Int.reduceToNat] <;> (try simp only [qb, qa, decide_eq_true_eq, decide_eq_false_iff_not, Bool.and_eq_true] at hc)) | refine And.intro (by first | assumption | omega | (have := qg (by assumption); omega) | (unfold qp; omega)) ?_ | ((first | simp (disch := omega) only [qr] | simp (disch := omega) only [qbb]); (try simp only [go_sem, ↓reduceIte, Nat.reduceEqDiff, Nat.reduceAdd, Nat.reduceSub, Nat.reduceMul, Nat.reduceLT, Nat.reduceLeDiff, reduceCtorEq, Int.reduceToNat])) | ((first | refine qdt hx rfl ?_); simp only [go_sem, ↓reduceIte, Nat.reduceEqDiff, Nat.reduceAdd, Nat.reduceSub, Nat.reduceMul, Nat.reduceLT, Nat.reduceLeDiff, reduceCtorEq, Int.reduceToNat]))
          · refine qbn (1, d', [n]) [0, 1, 2, 4] ⟨⟨by simp, g1, by simp only; omega, by simpa using i4, rfl⟩, by simp⟩ rfl (by simp) ?_ ?_ ?_
            all_goals simp only [q5c, hW2, encs, qdg, qdh]
            all_goals simp only [go_sem, ↓reduceIte, Nat.reduceEqDiff, Nat.reduceAdd, Nat.reduceSub, Nat.reduceMul, Nat.reduceLT, Nat.reduceLeDiff, reduceCtorEq, Int.reduceToNat]
            all_goals (try simp only [hab, har, show IntKind.i64.wrap (0 + 1) = ((1 : Nat) : Int) by rfl, and_self, true_and])
            all_goals (try rfl)
          · exfalso; omega
      · have hwn : (w = []) = False := eq_false (fun h => h0 (hw0.1 h))
        have ha : acc ≠ [] := fun h => h0 (by rw [← i5, h]; rfl)
        have hne := qci ha
        have hik : ifsK d w = qv d w := by rw [ifsK, if_neg (fun h => h0 (hw0.1 h))]
        rw [hik] at i4
        have g1 : (qv d w).1.good := (qq d w).1 i2
        have hr1 := (qq d w).2.1
        have hx := ih (qv d w).1 g1 (by omega)
        have g2 : (rec (qv d w).1).1.good := (hm _).1 g1
        have hr2 := (hm (qv d w).1).2.1
        have hcap : qp (acc.length + 1) 64 := capN (by omega)
        simp only [qb4 hne, qb3 hne, qbz]
        by_cases hwt : (qv d w).2 = true
        · rw [if_pos hwt] at i4
          generalize rec (qv d w).1 = r at *
          obtain ⟨d', o⟩ := r
          simp only at g2 hr2 hx i4
          cases o with
          | none =>
            rw [if_neg (by simp)] at i4
            subst i4
            repeat' (first | refine ql ?_ | refine qk ?_ | ((first | refine qn ?_ | refine qm ?_ | refine qs ?_ | refine qi ?_ | refine qh ?_); simp (disch := first | omega | (simp only [List.length_set, List.length_append, List.length_cons, List.length_nil]; done) | (simp only [List.length_set, List.length_append, List.length_cons, List.length_nil]; omega)) only [hil, hwn, Nat.mul_one, hget, hln, ne_eq, not_true_eq_false, not_false_eq_true, decide_true, decide_false, Option.isSome_none, Option.isSome_some, Option.getD_none, Option.getD_some, hwt, go_sem, ↓reduceIte, Nat.reduceEqDiff, Nat.reduceAdd, Nat.reduceSub, Nat.reduceMul, Nat.reduceLT, Nat.reduceLeDiff, reduceCtorEq, Int.reduceToNat]) | ((first | refine qf ?_ ?_ | refine qe ?_ ?_) <;> intro hc <;> simp only [hc, go_sem, ↓reduceIte, Nat.reduceEqDiff, Nat.reduceAdd, Nat.reduceSub, Nat.reduceMul, Nat.reduceLT, Nat.reduceLeDiff, reduceCtorEq, Int.reduceToNat] <;> (try simp only [qb, qa, decide_eq_true_eq, decide_eq_false_iff_not, Bool.and_eq_true] at hc)) | refine And.intro (by first | assumption | omega | (have := qg (by assumption); omega) | (unfold qp; omega)) ?_ | ((first | simp (disch := omega) only [qr] | simp (disch := omega) only [qbb]); (try simp only [go_sem, ↓reduceIte, Nat.reduceEqDiff, Nat.reduceAdd, Nat.reduceSub, Nat.reduceMul, Nat.reduceLT, Nat.reduceLeDiff, reduceCtorEq, Int.reduceToNat])) | ((first | refine qdt hx rfl ?_ | refine qd2 i2.ok ?_); simp only [go_sem, ↓reduceIte, Nat.reduceEqDiff, Nat.reduceAdd, Nat.reduceSub, Nat.reduceMul, Nat.reduceLT, Nat.reduceLeDiff, reduceCtorEq, Int.reduceToNat]))
            all_goals (simp only [enc, encs])
          | some n =>
            rw [if_pos (by rfl)] at i4
            repeat' (first | refine ql ?_ | refine qk ?_ | ((first | refine qn ?_ | refine qm ?_ | refine qs ?_ | refine qi ?_ | refine qh ?_); simp (disch := first | omega | (simp only [List.length_set, List.length_append, List.length_cons, List.length_nil]; done) | (simp only [List.length_set, List.length_append, List.length_cons, List.length_nil]; omega)) only [hil, hwn, Nat.mul_one, hget, hln, ne_eq, not_true_eq_false, not_false_eq_true, decide_true, decide_false, Option.isSome_none, Option.isSome_some, Option.getD_none, Option.getD_some, hwt, go_sem, ↓reduceIte, Nat.reduceEqDiff, Nat.reduceAdd, Nat.reduceSub, Nat.reduceMul, Nat.reduceLT, Nat.reduceLeDiff, reduceCtorEq, Int.reduceToNat]) | ((first | refine qf ?_ ?_ | refine qe ?_ ?_) <;> intro hc <;> simp only [hc, go_sem, ↓reduceIte, Nat.reduceEqDiff, Nat.reduceAdd, Nat.reduceSub, Nat.reduceMul, Nat.reduceLT, Nat.reduceLeDiff, reduceCtorEq, Int.reduceToNat] <;> (try simp only [qb, qa, decide_eq_true_eq, decide_eq_false_iff_not, Bool.and_eq_true] at hc)) | refine And.intro (by first | assumption | omega | (have := qg (by assumption); omega) | (unfold qp; omega)) ?_ | ((first | simp (disch := omega) only [qr] | simp (disch := omega) only [qbb]); (try simp only [go_sem, ↓reduceIte, Nat.reduceEqDiff, Nat.reduceAdd, Nat.reduceSub, Nat.reduceMul, Nat.reduceLT, Nat.reduceLeDiff, reduceCtorEq, Int.reduceToNat])) | ((first | refine qdt hx rfl ?_ | refine qd2 i2.ok ?_); simp only [go_sem, ↓reduceIte, Nat.reduceEqDiff, Nat.reduceAdd, Nat.reduceSub, Nat.reduceMul, Nat.reduceLT, Nat.reduceLeDiff, reduceCtorEq, Int.reduceToNat]))
            refine qbn (i + 1, d', acc ++ [n]) [0, 1, 2, 5] ⟨⟨by simp only; omega, g2, by simp only; omega, by simpa using i4, by simp [i5]⟩, by simp only; omega⟩ rfl (by simp) ?_ ?_ ?_
            all_goals simp only [q5c, hW2, ← qz, qct, qcs]
            all_goals simp only [go_sem, ↓reduceIte, Nat.reduceEqDiff, Nat.reduceAdd, Nat.reduceSub, Nat.reduceMul, Nat.reduceLT, Nat.reduceLeDiff, reduceCtorEq, Int.reduceToNat]
            all_goals (try simp only [hab, har, and_self, true_and])
            all_goals (try (rw [qz, qcb, qc5]; exact ⟨rfl, rfl⟩))
            all_goals (try (rw [qbb (by unfold maxLen; omega)]))
        · rw [if_neg hwt] at i4
          subst i4
          repeat' (first | refine ql ?_ | refine qk ?_ | ((first | refine qn ?_ | refine qm ?_ | refine qs ?_ | refine qi ?_ | refine qh ?_); simp (disch := first | omega | (simp only [List.length_set, List.length_append, List.length_cons, List.length_nil]; done) | (simp only [List.length_set, List.length_append, List.length_cons, List.length_nil]; omega)) only [hil, hwn, Nat.mul_one, hget, hln, ne_eq, not_true_eq_false, not_false_eq_true, decide_true, decide_false, Option.isSome_none, Option.isSome_some, Option.getD_none, Option.getD_some, hwt, go_sem, ↓reduceIte, Nat.reduceEqDiff, Nat.reduceAdd, Nat.reduceSub, Nat.reduceMul, Nat.reduceLT, Nat.reduceLeDiff, reduceCtorEq, Int.reduceToNat]) | ((first | refine qf ?_ ?_ | refine qe ?_ ?_) <;> intro hc <;> simp only [hc, go_sem, ↓reduceIte, Nat.reduceEqDiff, Nat.reduceAdd, Nat.reduceSub, Nat.reduceMul, Nat.reduceLT, Nat.reduceLeDiff, reduceCtorEq, Int.reduceToNat] <;> (try simp only [qb, qa, decide_eq_true_eq, decide_eq_false_iff_not, Bool.and_eq_true] at hc)) | refine And.intro (by first | assumption | omega | (have := qg (by assumption); omega) | (unfold qp; omega)) ?_ | ((first | simp (disch := omega) only [qr] | simp (disch := omega) only [qbb]); (try simp only [go_sem, ↓reduceIte, Nat.reduceEqDiff, Nat.reduceAdd, Nat.reduceSub, Nat.reduceMul, Nat.reduceLT, Nat.reduceLeDiff, reduceCtorEq, Int.reduceToNat])) | ((first | refine qd2 i2.ok ?_); simp only [go_sem, ↓reduceIte, Nat.reduceEqDiff, Nat.reduceAdd, Nat.reduceSub, Nat.reduceMul, Nat.reduceLT, Nat.reduceLeDiff, reduceCtorEq, Int.reduceToNat]))
          all_goals (simp only [enc, encs])
    · obtain rfl : i = 3 := by omega
      have hil : ¬ (3 : Int) < 3 := by omega
      have ha : acc ≠ [] := fun h => by rw [h] at i5; cases i5
      have hne := qci ha
      rw [show ifsW.drop 3 = [] from rfl, qea] at i4
      subst i4
      simp only [qb4 hne, qb3 hne, qbz]
      repeat' (first | refine ql ?_ | refine qk ?_ | ((first | refine qn ?_ | refine qm ?_ | refine qs ?_ | refine qi ?_ | refine qh ?_); simp (disch := first | omega | (simp only [List.length_set, List.length_append, List.length_cons, List.length_nil]; done) | (simp only [List.length_set, List.length_append, List.length_cons, List.length_nil]; omega)) only [hil, go_sem, ↓reduceIte, Nat.reduceEqDiff, Nat.reduceAdd, Nat.reduceSub, Nat.reduceMul, Nat.reduceLT, Nat.reduceLeDiff, reduceCtorEq, Int.reduceToNat]) | ((first | refine qf ?_ ?_ | refine qe ?_ ?_) <;> intro hc <;> simp only [hc, go_sem, ↓reduceIte, Nat.reduceEqDiff, Nat.reduceAdd, Nat.reduceSub, Nat.reduceMul, Nat.reduceLT, Nat.reduceLeDiff, reduceCtorEq, Int.reduceToNat] <;> (try simp only [qb, qa, decide_eq_true_eq, decide_eq_false_iff_not, Bool.and_eq_true] at hc)) | refine And.intro (by first | assumption | omega | (have := qg (by assumption); omega) | (unfold qp; omega)) ?_ | ((first | simp (disch := omega) only [qr] | simp (disch := omega) only [qbb]); (try simp only [go_sem, ↓reduceIte, Nat.reduceEqDiff, Nat.reduceAdd, Nat.reduceSub, Nat.reduceMul, Nat.reduceLT, Nat.reduceLeDiff, reduceCtorEq, Int.reduceToNat])))
      all_goals first | (simp only [enc, encs]; done) | (exfalso; omega) | skip
theorem q8r (c : K) (hg : c.good) (hr : rest c ≤ b) : qcp Tryz.prog 31 (curE c) (curE (qeg rec c).1) [.ptr 0 0] (resB (qeg rec c).2) := by
  have g1 : (qt c [92]).1.good := (q8 _ _).1 hg
  have g2 : (qt c [108, 101, 116]).1.good := (q8 _ _).1 hg
  have g3 : (qt c [99, 97, 115, 101]).1.good := (q8 _ _).1 hg
  have g4 : (qt c [105, 102]).1.good := (q8 _ _).1 hg
  refine qbe c0t 1 (by simp) (by simp) ?_
  unfold qeg
  by_cases t1 : (qt c [92]).2 = true
  · rw [if_pos t1]
    have l1 := qem t1
    by_cases hk : (qbd (qt c [92]).1).kind = 1
    · rw [if_pos hk]
      have hl := qsi ih [45, 62] (rest (qt c [92]).1 + 1) _ g1 (by omega) (Nat.lt_succ_self _)
      repeat' (first | refine ql ?_ | refine qk ?_ | ((first | refine qlz ?_ | refine qy ?_ | refine qm ?_ | refine qi ?_ | refine qh ?_); simp (disch := first | omega | (simp only [List.length_set, List.length_append, List.length_cons, List.length_nil]; done) | (simp only [List.length_set, List.length_append, List.length_cons, List.length_nil]; omega)) only [t1, hk, ne_eq, not_true_eq_false, decide_false, go_sem, ↓reduceIte, Nat.reduceEqDiff, Nat.reduceAdd, Nat.reduceSub, Nat.reduceMul, Nat.reduceLT, Nat.reduceLeDiff, reduceCtorEq, Int.reduceToNat]) | ((first | refine qf ?_ ?_ | refine qe ?_ ?_) <;> intro hc <;> simp only [hc, go_sem, ↓reduceIte, Nat.reduceEqDiff, Nat.reduceAdd, Nat.reduceSub, Nat.reduceMul, Nat.reduceLT, Nat.reduceLeDiff, reduceCtorEq, Int.reduceToNat] <;> (try simp only [qb, qa, decide_eq_true_eq, decide_eq_false_iff_not, Bool.and_eq_true] at hc)) | refine And.intro (by first | assumption | omega | (have := qg (by assumption); omega) | (unfold qp; omega)) ?_ | fail | ((first | refine qdv ?_ | refine qfh hg.ok ?_ | refine qpk hl rfl ?_); simp only [go_sem, ↓reduceIte, Nat.reduceEqDiff, Nat.reduceAdd, Nat.reduceSub, Nat.reduceMul, Nat.reduceLT, Nat.reduceLeDiff, reduceCtorEq, Int.reduceToNat]))
    · rw [if_neg hk]
      repeat' (first | refine ql ?_ | refine qk ?_ | ((first | refine qlz ?_ | refine qy ?_ | refine qm ?_ | refine qi ?_ | refine qh ?_); simp (disch := first | omega | (simp only [List.length_set, List.length_append, List.length_cons, List.length_nil]; done) | (simp only [List.length_set, List.length_append, List.length_cons, List.length_nil]; omega)) only [t1, hk, ne_eq, not_false_eq_true, decide_true, go_sem, ↓reduceIte, Nat.reduceEqDiff, Nat.reduceAdd, Nat.reduceSub, Nat.reduceMul, Nat.reduceLT, Nat.reduceLeDiff, reduceCtorEq, Int.reduceToNat]) | ((first | refine qf ?_ ?_ | refine qe ?_ ?_) <;> intro hc <;> simp only [hc, go_sem, ↓reduceIte, Nat.reduceEqDiff, Nat.reduceAdd, Nat.reduceSub, Nat.reduceMul, Nat.reduceLT, Nat.reduceLeDiff, reduceCtorEq, Int.reduceToNat] <;> (try simp only [qb, qa, decide_eq_true_eq, decide_eq_false_iff_not, Bool.and_eq_true] at hc)) | refine And.intro (by first | assumption | omega | (have := qg (by assumption); omega) | (unfold qp; omega)) ?_ | fail | ((first | refine qdv ?_ | refine qfh hg.ok ?_ | refine qb0n ?_); simp only [go_sem, ↓reduceIte, Nat.reduceEqDiff, Nat.reduceAdd, Nat.reduceSub, Nat.reduceMul, Nat.reduceLT, Nat.reduceLeDiff, reduceCtorEq, Int.reduceToNat]))
      rw [qlt]
  · have t1f : (qt c [92]).2 = false := by simpa using t1
    have e1 := qdl t1f
    rw [if_neg t1]
    by_cases t2 : (qt c [108, 101, 116]).2 = true
    · rw [if_pos t2]
      have l2 := qem t2
      have hl := qbsb hm ih (qbd c).pos _ g2 (by omega)
      unfold posZ at hl
      repeat' (first | refine ql ?_ | refine qk ?_ | ((first | refine qlz ?_ | refine qy ?_ | refine qm ?_ | refine qi ?_ | refine qh ?_); simp (disch := first | omega | (simp only [List.length_set, List.length_append, List.length_cons, List.length_nil]; done) | (simp only [List.length_set, List.length_append, List.length_cons, List.length_nil]; omega)) only [t1f, e1, t2, go_sem, ↓reduceIte, Nat.reduceEqDiff, Nat.reduceAdd, Nat.reduceSub, Nat.reduceMul, Nat.reduceLT, Nat.reduceLeDiff, reduceCtorEq, Int.reduceToNat]) | ((first | refine qf ?_ ?_ | refine qe ?_ ?_) <;> intro hc <;> simp only [hc, go_sem, ↓reduceIte, Nat.reduceEqDiff, Nat.reduceAdd, Nat.reduceSub, Nat.reduceMul, Nat.reduceLT, Nat.reduceLeDiff, reduceCtorEq, Int.reduceToNat] <;> (try simp only [qb, qa, decide_eq_true_eq, decide_eq_false_iff_not, Bool.and_eq_true] at hc)) | refine And.intro (by first | assumption | omega | (have := qg (by assumption); omega) | (unfold qp; omega)) ?_ | fail | ((first | refine qdv ?_ | refine qfh hg.ok ?_ | refine qpk hl rfl ?_); simp only [go_sem, ↓reduceIte, Nat.reduceEqDiff, Nat.reduceAdd, Nat.reduceSub, Nat.reduceMul, Nat.reduceLT, Nat.reduceLeDiff, reduceCtorEq, Int.reduceToNat]))
    · have t2f : (qt c [108, 101, 116]).2 = false := by simpa using t2
      have e2 := qdl t2f
      rw [if_neg t2]
      by_cases t3 : (qt c [99, 97, 115, 101]).2 = true
      · rw [if_pos t3]
        have l2 := qem t3
        have hl := q3d hm ih (qbd c).pos _ g3 (by omega)
        unfold posZ at hl
        repeat' (first | refine ql ?_ | refine qk ?_ | ((first | refine qlz ?_ | refine qy ?_ | refine qm ?_ | refine qi ?_ | refine qh ?_); simp (disch := first | omega | (simp only [List.length_set, List.length_append, List.length_cons, List.length_nil]; done) | (simp only [List.length_set, List.length_append, List.length_cons, List.length_nil]; omega)) only [t1f, e1, t2f, e2, t3, go_sem, ↓reduceIte, Nat.reduceEqDiff, Nat.reduceAdd, Nat.reduceSub, Nat.reduceMul, Nat.reduceLT, Nat.reduceLeDiff, reduceCtorEq, Int.reduceToNat]) | ((first | refine qf ?_ ?_ | refine qe ?_ ?_) <;> intro hc <;> simp only [hc, go_sem, ↓reduceIte, Nat.reduceEqDiff, Nat.reduceAdd, Nat.reduceSub, Nat.reduceMul, Nat.reduceLT, Nat.reduceLeDiff, reduceCtorEq, Int.reduceToNat] <;> (try simp only [qb, qa, decide_eq_true_eq, decide_eq_false_iff_not, Bool.and_eq_true] at hc)) | refine And.intro (by first | assumption | omega | (have := qg (by assumption); omega) | (unfold qp; omega)) ?_ | fail | ((first | refine qdv ?_ | refine qfh hg.ok ?_ | refine qpk hl rfl ?_); simp only [go_sem, ↓reduceIte, Nat.reduceEqDiff, Nat.reduceAdd, Nat.reduceSub, Nat.reduceMul, Nat.reduceLT, Nat.reduceLeDiff, reduceCtorEq, Int.reduceToNat]))
      · have t3f : (qt c [99, 97, 115, 101]).2 = false := by simpa using t3
        have e3 := qdl t3f
        rw [if_neg t3]
        by_cases t4 : (qt c [105, 102]).2 = true
        · rw [if_pos t4]
          have l2 := qem t4
          have hl := qblo hm ih (qbd c).pos _ g4 (by omega)
          unfold posZ at hl
          repeat' (first | refine ql ?_ | refine qk ?_ | ((first | refine qlz ?_ | refine qy ?_ | refine qm ?_ | refine qi ?_ | refine qh ?_); simp (disch := first | omega | (simp only [List.length_set, List.length_append, List.length_cons, List.length_nil]; done) | (simp only [List.length_set, List.length_append, List.length_cons, List.length_nil]; omega)) only [t1f, e1, t2f, e2, t3f, e3, t4, go_sem, ↓reduceIte, Nat.reduceEqDiff, Nat.reduceAdd, Nat.reduceSub, Nat.reduceMul, Nat.reduceLT, Nat.reduceLeDiff, reduceCtorEq, Int.reduceToNat]) | ((first | refine qf ?_ ?_ | refine qe ?_ ?_) <;> intro hc <;> simp only [hc, go_sem, ↓reduceIte, Nat.reduceEqDiff, Nat.reduceAdd, Nat.reduceSub, Nat.reduceMul, Nat.reduceLT, Nat.reduceLeDiff, reduceCtorEq, Int.reduceToNat] <;> (try simp only [qb, qa, decide_eq_true_eq, decide_eq_false_iff_not, Bool.and_eq_true] at hc)) | refine And.intro (by first | assumption | omega | (have := qg (by assumption); omega) | (unfold qp; omega)) ?_ | fail | ((first | refine qdv ?_ | refine qfh hg.ok ?_ | refine qpk hl rfl ?_); simp only [go_sem, ↓reduceIte, Nat.reduceEqDiff, Nat.reduceAdd, Nat.reduceSub, Nat.reduceMul, Nat.reduceLT, Nat.reduceLeDiff, reduceCtorEq, Int.reduceToNat]))
        · have t4f : (qt c [105, 102]).2 = false := by simpa using t4
          have e4 := qdl t4f
          rw [if_neg t4]
          have hl := q97 hm ih _ hg hr
          repeat' (first | refine ql ?_ | refine qk ?_ | ((first | refine qlz ?_ | refine qy ?_ | refine qm ?_ | refine qi ?_ | refine qh ?_); simp (disch := first | omega | (simp only [List.length_set, List.length_append, List.length_cons, List.length_nil]; done) | (simp only [List.length_set, List.length_append, List.length_cons, List.length_nil]; omega)) only [t1f, e1, t2f, e2, t3f, e3, t4f, e4, go_sem, ↓reduceIte, Nat.reduceEqDiff, Nat.reduceAdd, Nat.reduceSub, Nat.reduceMul, Nat.reduceLT, Nat.reduceLeDiff, reduceCtorEq, Int.reduceToNat]) | ((first | refine qf ?_ ?_ | refine qe ?_ ?_) <;> intro hc <;> simp only [hc, go_sem, ↓reduceIte, Nat.reduceEqDiff, Nat.reduceAdd, Nat.reduceSub, Nat.reduceMul, Nat.reduceLT, Nat.reduceLeDiff, reduceCtorEq, Int.reduceToNat] <;> (try simp only [qb, qa, decide_eq_true_eq, decide_eq_false_iff_not, Bool.and_eq_true] at hc)) | refine And.intro (by first | assumption | omega | (have := qg (by assumption); omega) | (unfold qp; omega)) ?_ | fail | ((first | refine qdv ?_ | refine qfh hg.ok ?_ | refine qpk hl rfl ?_); simp only [go_sem, ↓reduceIte, Nat.reduceEqDiff, Nat.reduceAdd, Nat.reduceSub, Nat.reduceMul, Nat.reduceLT, Nat.reduceLeDiff, reduceCtorEq, Int.reduceToNat]))
end
end Go.Proofs.YtmekebfgmjaenaaGreat
