/- Texts of this proof, joined. -/
import Derived.Test.YtmekebfgmjaenaaRbd

/- expressions: what is read (plain) -/
namespace Go.Proofs.Ytmekebfgmjaenaa
open Go Go.RowKit Go.V
set_option linter.unusedVariables false
set_option linter.unusedSimpArgs false

def leafE (c : K) : Option N :=
  if (qw c).kind = 1 then some (qg7 c 21 [])
  else if (qw c).kind = 2 then some (qg7 c 22 [])
  else if (qw c).kind = 3 then some (.mk 23 (qw c).pos (qw c).num [] [])
  else none
def begE (c : K) : Bool := (leafE c).isSome || isK c [40]
def q8 (rec : K → K × Option N) (c : K) : K × Option N :=
  if (leafE c).isSome = true then (qt c, leafE c)
  else if isK c [40] = true then
    if (qe c).2 = true then
      if (rec (qt (qe c).1)).2.isSome = true then
        if (qq (rec (qt (qe c).1)).1 [41]).2 = true then (qbn (qq (rec (qt (qe c).1)).1 [41]).1, (rec (qt (qe c).1)).2)
        else ((qq (rec (qt (qe c).1)).1 [41]).1, none)
      else ((rec (qt (qe c).1)).1, none)
    else ((qe c).1, none)
  else (qee c 5, none)
/-- A tree, and whether it is one. -/
abbrev R3 := K × N × Bool
def ofO (r : K × Option N) : R3 := (r.1, r.2.getD N0, r.2.isSome)
def toO (r : R3) : K × Option N := (r.1, if r.2.2 = true then some r.2.1 else none)
def appN (n k : N) : N := .mk 24 n.pos 0 [] [n, k]
def qdj (rec : K → K × Option N) : Nat → K → N → R3
  | 0, c, n => (c, n, false)
  | f + 1, c, n =>
    if begE c = true then
      if (q8 rec c).2.isSome = true then qdj rec f (q8 rec c).1 (appN n ((q8 rec c).2.getD N0))
      else ((q8 rec c).1, appN n ((q8 rec c).2.getD N0), false)
    else (c, n, true)
def qeg (rec : K → K × Option N) (c : K) : R3 :=
  if (q8 rec c).2.isSome = true then qdj rec (rest (q8 rec c).1 + 1) (q8 rec c).1 ((q8 rec c).2.getD N0)
  else ((q8 rec c).1, (q8 rec c).2.getD N0, false)
def lamN (t : T) (n : N) : N := .mk 25 t.pos 0 t.text [n]
def qby (rec : K → K × Option N) (x : List UInt8) : Nat → K → R3
  | 0, c => (c, N0, false)
  | f + 1, c =>
    if (qw c).kind = 1 then ((qby rec x f (qt c)).1, lamN (qw c) (qby rec x f (qt c)).2.1, (qby rec x f (qt c)).2.2)
    else if (qq c x).2 = true then ofO (rec (qq c x).1)
    else ((qq c x).1, N0, false)
def qrf (k : Int) (t : T) (n : N) : N := .mk k t.pos 0 t.text [n]
def qbq (rec : K → K × Option N) (c : K) : K × Option N :=
  if (kindK c 1).2 = true then
    if (qp (kindK c 1).1 [58, 58]).2 = true then
      ((qdo (rest (qp (kindK c 1).1 [58, 58]).1 + 2) (qp (kindK c 1).1 [58, 58]).1).1, (qdo (rest (qp (kindK c 1).1 [58, 58]).1 + 2) (qp (kindK c 1).1 [58, 58]).1).2.map (qrf 32 (qg9 c 1)))
    else ((qby rec [61] (rest (kindK c 1).1 + 1) (kindK c 1).1).1, (toO (qby rec [61] (rest (kindK c 1).1 + 1) (kindK c 1).1)).2.map (qrf 31 (qg9 c 1)))
  else ((kindK c 1).1, none)
/-- Things of a kind with ; between, and } behind them. -/
abbrev RL := K × List N × Bool
def qbr (rd : K → R3) : Nat → K → List N → RL
  | 0, c, _ => (c, [], false)
  | f + 1, c, acc =>
    if (rd c).2.2 = true then
      if ((qp (rd c).1 [59]).2 && !isK (qp (rd c).1 [59]).1 [125]) = true then qbr rd f (qp (rd c).1 [59]).1 (acc ++ [(rd c).2.1])
      else ((qq (qp (rd c).1 [59]).1 [125]).1, acc ++ [(rd c).2.1], (qq (qp (rd c).1 [59]).1 [125]).2)
    else ((rd c).1, [], false)
def qbh (rd : K → R3) (c : K) : RL :=
  if (qq c [123]).2 = true then qbr rd (rest (qq c [123]).1 + 1) (qq c [123]).1 [] else ((qq c [123]).1, [], false)
def posN (p : Int) : N := .mk 0 p 0 [] []
def letC (rec : K → K × Option N) (p : Int) (l : List N) (w : K × Bool) : R3 :=
  if w.2 = true then ((rec w.1).1, .mk 26 p 0 [] (l ++ [(rec w.1).2.getD N0]), (rec w.1).2.isSome) else (w.1, posN p, false)
def letB (rec : K → K × Option N) (p : Int) (l : RL) : R3 :=
  if l.2.2 = true then letC rec p l.2.1 (qq l.1 [105, 110]) else (l.1, posN p, false)
def qfz (rec : K → K × Option N) (p : Int) (c : K) : R3 := letB rec p (qbh (fun c => ofO (qbq rec c)) c)
def altN (p e : N) : N := .mk 15 p.pos 0 [] [p, e]
def altC (rec : K → K × Option N) (p : N) (w : K × Bool) : R3 :=
  if w.2 = true then ((rec w.1).1, altN p ((rec w.1).2.getD N0), (rec w.1).2.isSome) else (w.1, p, false)
def altB (rec : K → K × Option N) (r : K × Option N) : R3 :=
  if r.2.isSome = true then altC rec (r.2.getD N0) (qq r.1 [45, 62]) else (r.1, r.2.getD N0, false)
def qdf (rec : K → K × Option N) (c : K) : R3 := altB rec (qbx (rest c + 2) c)
def qu0 (p : Int) (x : N) (l : RL) : R3 := (l.1, .mk 27 p 0 [] (x :: l.2.1), l.2.2)
def quj (rec : K → K × Option N) (p : Int) (x : N) (w : K × Bool) : R3 :=
  if w.2 = true then qu0 p x (qbh (qdf rec) w.1) else (w.1, posN p, false)
def qea (rec : K → K × Option N) (p : Int) (c : K) : R3 :=
  if (rec c).2.isSome = true then quj rec p ((rec c).2.getD N0) (qq (rec c).1 [111, 102]) else ((rec c).1, posN p, false)
def ifsK (c : K) (w : List UInt8) : K × Bool := if w = [] then (c, true) else qq c w
def qc6 (rec : K → K × Option N) (p : Int) : List (List UInt8) → K → List N → R3
  | [], c, acc => (c, .mk 28 p 0 [] acc, true)
  | w :: r, c, acc =>
    if (ifsK c w).2 = true then
      if (rec (ifsK c w).1).2.isSome = true then qc6 rec p r (rec (ifsK c w).1).1 (acc ++ [(rec (ifsK c w).1).2.getD N0])
      else ((rec (ifsK c w).1).1, .mk 28 p 0 [] acc, false)
    else ((ifsK c w).1, .mk 28 p 0 [] acc, false)
def ifsW : List (List UInt8) := [[], [116, 104, 101, 110], [101, 108, 115, 101]]
def qcs (rec : K → K × Option N) (c : K) : R3 :=
  if (qp c [92]).2 = true then
    if (qw (qp c [92]).1).kind = 1 then qby rec [45, 62] (rest (qp c [92]).1 + 1) (qp c [92]).1
    else (qee (qp c [92]).1 5, posN (qw c).pos, false)
  else if (qp c [108, 101, 116]).2 = true then qfz rec (qw c).pos (qp c [108, 101, 116]).1
  else if (qp c [99, 97, 115, 101]).2 = true then qea rec (qw c).pos (qp c [99, 97, 115, 101]).1
  else if (qp c [105, 102]).2 = true then qc6 rec (qw c).pos ifsW (qp c [105, 102]).1 []
  else qeg rec c
def qbt : Nat → K → K × Option N
  | 0, c => (c, none)
  | f + 1, c =>
    if (qe c).2 = true then (qbn (qcs (qbt f) (qe c).1).1, (toO (qcs (qbt f) (qe c).1)).2)
    else ((qe c).1, none)

theorem qih {c : K} (h : (leafE c).isSome = true) : (qw c).kind ≠ 0 := by
  unfold leafE at h
  split at h
  · omega
  · split at h
    · omega
    · split at h
      · omega
      · cases h
theorem qnd {c : K} (h : begE c = true) : (qw c).kind ≠ 0 := by
  simp only [begE, Bool.or_eq_true] at h
  rcases h with h | h
  · exact qih h
  · exact qcg h
theorem qdm {c : K} {x : List UInt8} (h : (qp c x).2 = true) : rest (qp c x).1 < rest c := by
  unfold qp at h ⊢
  split at h
  · rename_i h1
    rw [if_pos h1]
    have := qbg (qcg h1)
    simp only; omega
  · cases h
theorem qft {c : K} {x : List UInt8} (h : (qq c x).2 = true) : rest (qq c x).1 < rest c := by
  unfold qq at h ⊢
  split at h
  · rename_i h1
    rw [if_pos h1]
    have := qbg (qcg h1)
    simp only; omega
  · cases h
theorem qs7 {c : K} (h : (kindK c 1).2 = true) : rest (kindK c 1).1 < rest c := by
  obtain ⟨h1, h2⟩ := qik h
  rw [(q1j h).1]
  have := qbg (c := c) (by omega)
  simp only; omega
section
variable {rec : K → K × Option N} (hm : ∀ c, Mon c (rec c).1)
include hm
theorem qcz (c : K) : Mon c (q8 rec c).1 := by
  unfold q8
  split
  · exact qbm c
  · split
    · split
      · have h1 := ((qv c).trans (qbm _)).trans (hm _)
        split
        · split
          · exact (h1.trans (qo _ _)).trans (qbc _)
          · exact h1.trans (qo _ _)
        · exact h1
      · exact qv c
    · exact qd7 c 5
theorem qha {c : K} (h : (q8 rec c).2.isSome = true) : rest (q8 rec c).1 < rest c := by
  unfold q8 at h ⊢
  split at h
  · rename_i hl
    rw [if_pos hl]
    have := qbg (qih hl)
    simp only; omega
  · rename_i hl
    rw [if_neg hl]
    split at h
    · rename_i hk
      rw [if_pos hk]
      split at h
      · rename_i he
        rw [if_pos he]
        have hp := qbg (c := (qe c).1) (by rw [qcp he]; exact qcg hk)
        have h0 := (qv c).2.1
        have h1 := (hm (qt (qe c).1)).2.1
        split at h
        · rename_i hr
          rw [if_pos hr]
          have h2 := (qo (rec (qt (qe c).1)).1 [41]).2.1
          split at h
          · rename_i hw
            rw [if_pos hw]
            have h3 := (qbc (qq (rec (qt (qe c).1)).1 [41]).1).2.1
            simp only; omega
          · cases h
        · cases h
      · cases h
    · cases h
theorem qnp : ∀ (f : Nat) (c : K) (n : N), Mon c (qdj rec f c n).1
  | 0, c, n => Mon.refl c
  | f + 1, c, n => by
    rw [qdj]
    split
    · split
      · exact (qcz hm c).trans (qnp f _ _)
      · exact qcz hm c
    · exact Mon.refl c
theorem qyc (c : K) : Mon c (qeg rec c).1 := by
  unfold qeg
  split
  · exact (qcz hm c).trans (qnp hm _ _ _)
  · exact qcz hm c
theorem qgn (x : List UInt8) : ∀ (f : Nat) (c : K), Mon c (qby rec x f c).1
  | 0, c => Mon.refl c
  | f + 1, c => by
    rw [qby]
    split
    · exact (qbm c).trans (qgn x f _)
    · split
      · exact (qo c x).trans (hm _)
      · exact qo c x
theorem qgp (c : K) : Mon c (qbq rec c).1 := by
  unfold qbq
  split
  · split
    · exact ((qc8 c 1).trans (q6 _ _)).trans (qi0 _ _)
    · exact (qc8 c 1).trans (qgn hm _ _ _)
  · exact qc8 c 1
theorem qkv {c : K} (h : (qbq rec c).2.isSome = true) : rest (qbq rec c).1 < rest c := by
  unfold qbq at h ⊢
  split at h
  · rename_i h1
    rw [if_pos h1]
    have h2 := qs7 h1
    split
    · have h3 := ((q6 (kindK c 1).1 [58, 58]).trans (qi0 (rest (qp (kindK c 1).1 [58, 58]).1 + 2) _)).2.1
      simp only; omega
    · have h3 := (qgn hm [61] (rest (kindK c 1).1 + 1) (kindK c 1).1).2.1
      simp only; omega
  · cases h
omit hm in
theorem qk0 {rd : K → R3} (hd : ∀ c, Mon c (rd c).1) : ∀ (f : Nat) (c : K) (acc : List N), Mon c (qbr rd f c acc).1
  | 0, c, acc => Mon.refl c
  | f + 1, c, acc => by
    rw [qbr]
    split
    · split
      · exact ((hd c).trans (q6 _ _)).trans (qk0 hd f _ _)
      · exact ((hd c).trans (q6 _ _)).trans (qo _ _)
    · exact hd c
omit hm in
theorem qfn {rd : K → R3} (hd : ∀ c, Mon c (rd c).1) (c : K) : Mon c (qbh rd c).1 := by
  unfold qbh
  split
  · exact (qo c _).trans (qk0 hd _ _ _)
  · exact qo c _
theorem qxq (p : Int) (c : K) : Mon c (qfz rec p c).1 := by
  unfold qfz letB letC
  have h := qfn (rd := fun c => ofO (qbq rec c)) (fun c => qgp hm c) c
  split
  · split
    · exact (h.trans (qo _ _)).trans (hm _)
    · exact h.trans (qo _ _)
  · exact h
theorem qj6 (c : K) : Mon c (qdf rec c).1 := by
  unfold qdf altB altC
  have h := qd8 (rest c + 2) c
  split
  · split
    · exact (h.trans (qo _ _)).trans (hm _)
    · exact h.trans (qo _ _)
  · exact h
theorem qmb {c : K} (h : (qdf rec c).2.2 = true) : rest (qdf rec c).1 < rest c := by
  unfold qdf altB altC at h ⊢
  have h1 := (qd8 (rest c + 2) c).2.1
  split at h
  · rename_i h2
    rw [if_pos h2]
    split at h
    · rename_i h3
      rw [if_pos h3]
      have h4 := qft h3
      have h5 := (hm (qq (qbx (rest c + 2) c).1 [45, 62]).1).2.1
      simp only; omega
    · cases h
  · cases h
theorem qt2 (p : Int) (c : K) : Mon c (qea rec p c).1 := by
  unfold qea quj qu0
  have h := hm c
  split
  · split
    · exact (h.trans (qo _ _)).trans (qfn (fun c => qj6 hm c) _)
    · exact h.trans (qo _ _)
  · exact h
omit hm in
theorem qlf (c : K) (w : List UInt8) : Mon c (ifsK c w).1 := by
  unfold ifsK
  split
  · exact Mon.refl c
  · exact qo c w
theorem qoz (p : Int) : ∀ (l : List (List UInt8)) (c : K) (acc : List N), Mon c (qc6 rec p l c acc).1
  | [], c, acc => Mon.refl c
  | w :: r, c, acc => by
    rw [qc6]
    split
    · split
      · exact ((qlf c w).trans (hm _)).trans (qoz p r _ _)
      · exact (qlf c w).trans (hm _)
    · exact qlf c w
theorem qmo (c : K) : Mon c (qcs rec c).1 := by
  unfold qcs
  split
  · split
    · exact (q6 c _).trans (qgn hm _ _ _)
    · exact (q6 c _).trans (qd7 _ 5)
  · split
    · exact (q6 c _).trans (qxq hm _ _)
    · split
      · exact (q6 c _).trans (qt2 hm _ _)
      · split
        · exact (q6 c _).trans (qoz hm _ _ _ _)
        · exact qyc hm c
end
theorem qjx : ∀ (f : Nat) (c : K), Mon c (qbt f c).1
  | 0, c => Mon.refl c
  | f + 1, c => by
    rw [qbt]
    split
    · exact ((qv c).trans (qmo (qjx f) _)).trans (qbc _)
    · exact qv c
set_option maxRecDepth 4000

def resB (r : N × Bool) : AV := .tup [enc r.1, .bool r.2]
attribute [go_sem] resB
theorem q1w (k : Nat) (r : N × Bool) : (resB r).bd k = true := by simp only [resB, AV.bd, AV.bds, ql4, Bool.and_true]
theorem qn8 {P : Program} {f : FuncId} {c c' : K} {L : List Ent} {args : List AV} {r : N × Bool} {Q : List Ent → VO → Prop} (h : qb8 P f (curE c) (curE c') args (resB r)) (ha : AV.bds 1 args = true) (hq : Q (curE c' :: L) (.val (resB r))) : VApp P (curE c :: L) (.fn f [] []) args Q :=
  qbw h (qbf _ _) (qbf _ _) ha (q1w _ _) fun _ => hq
theorem q5i (c : K) : qb8 Try.prog 50 (curE c) (curE c) [.ptr 0 0] (resP (leafE c)) := by
  refine q7 c0m 1 (by simp) (by simp) ?_
  repeat' (first | refine ql ?_ | refine qk ?_ | ((first | refine qn ?_ | refine qm ?_ | refine qj ?_ | refine qi ?_ | refine qc5 ?_ | refine a_Is ?_ | ((first | refine qf ?_ ?_ | refine qc ?_ ?_) <;> intro hc <;> (try simp only [hc]) <;> (try simp only [qb, qa, decide_eq_true_eq, decide_eq_false_iff_not, Bool.and_eq_true] at hc)) | refine And.intro (by first | assumption | omega | (have := qh (by assumption); omega) | (unfold qs; omega)) ?_ | simp (disch := omega) only [qd] | simp (disch := omega) only [qr]) <;> (try simp only [go_sem, ↓reduceIte, Nat.reduceEqDiff, Nat.reduceAdd, Nat.reduceSub, Nat.reduceMul, Nat.reduceLT, Nat.reduceLeDiff, reduceCtorEq, Int.reduceToNat])))
  all_goals (unfold leafE qg7; simp_all [enc, encs, N0])
theorem q0y {c : K} {L : List Ent} {Q : List Ent → VO → Prop} (hq : Q (curE c :: L) (.val (resP (leafE c)))) : VApp Try.prog (curE c :: L) (.fn 50 [] []) [.ptr 0 0] Q := qc3 (q5i c) rfl hq
section
variable {rec : K → K × Option N} {b : Nat} (hm : ∀ c, Mon c (rec c).1) (ih : ∀ c, c.good → rest c < b → qb8 Try.prog 10 (curE c) (curE (rec c).1) [.ptr 0 0] (resP (rec c).2))
include hm ih
theorem qvp (c : K) (hg : c.good) (hr : rest c ≤ b) : qb8 Try.prog 49 (curE c) (curE (q8 rec c).1) [.ptr 0 0] (resP (q8 rec c).2) := by
  have g1 : (qe c).1.good := (qv c).1 hg
  have g2 : (qt (qe c).1).good := (qbm _).1 g1
  have g3 : (rec (qt (qe c).1)).1.good := (hm _).1 g2
  have g4 : (qq (rec (qt (qe c).1)).1 [41]).1.good := (qo _ _).1 g3
  have hrr : isK c [40] = true → (qe c).2 = true → rest (qt (qe c).1) < b := fun h1 h2 => by
    have := qbg (c := (qe c).1) (by rw [qcp h2]; exact qcg h1)
    have := (qv c).2.1
    omega
  refine q7 c0n 1 (by simp) (by simp) ?_
  repeat' (first | refine ql ?_ | ((first | refine qn ?_ | refine qm ?_ | refine qj ?_ | refine qi ?_ | refine q0y ?_ | refine a_Is ?_ | refine qo9 ?_ | refine qgb ?_ | refine qhk hg.ok ?_ | refine qhk g1.ok ?_ | refine qc3 (ih _ g2 (hrr (by assumption) (by assumption))) rfl ?_ | refine qdc g3.ok ?_ | refine qeo g4.2.2 ?_ | ((first | refine qf ?_ ?_ | refine qc ?_ ?_) <;> intro hc <;> (try simp only [hc]) <;> (try simp only [qb, qa, decide_eq_true_eq, decide_eq_false_iff_not, Bool.and_eq_true] at hc)) | refine And.intro (by first | assumption | omega | (have := qh (by assumption); omega) | (unfold qs; omega)) ?_ | simp (disch := omega) only [qd] | simp (disch := omega) only [qr]) <;> (try simp only [go_sem, ↓reduceIte, Nat.reduceEqDiff, Nat.reduceAdd, Nat.reduceSub, Nat.reduceMul, Nat.reduceLT, Nat.reduceLeDiff, reduceCtorEq, Int.reduceToNat])))
  all_goals (unfold q8; simp only [*, qdz, Int.reduceEq, if_true, if_false, reduceIte, Bool.false_eq_true, Option.getD_none, Option.getD_some, Option.isSome_none, Option.isSome_some, and_self, true_and, and_true]; try rfl)
omit hm ih
/-- A variable that holds a tree: its row may be a literal. -/
def q0z (fl : Bool) (n : N) : Ent := .blk [.int .i64 n.kind, .int .i64 n.pos, .int .i64 n.num, .str n.text, if fl = true then .lit 5 (encs n.kids) else .sl 5 (encs n.kids)]
theorem q6y {P : Program} {fr : Option Nat} {k m : Nat} {a : IC} {Q : VE → AF → List Ent → Prop} {af : AF} {A B : Ent} {L : List Ent} {fl : Bool} {n : N} (h : VI P fr k m a Q af (A :: B :: .blk (enc n).cells :: L)) : VI P fr k m a Q af (A :: B :: q0z fl n :: L) := by
  cases n
  cases fl with
  | false => exact h
  | true =>
    refine qzk 2 4 (.sl 5) (by rfl) ?_
    simp only [List.getD_cons_succ, List.getD_cons_zero, if_true, qs9, List.set_cons_succ, List.set_cons_zero]
    exact h
include hm ih
def q0b (x : Bool × Nat × K × N × Bool) : AF × List Ent :=
  (⟨[(0, .ptr 0 0), (2, .ptr 1 0), (4, .ptr 2 0), (5, .bool x.2.2.2.2)], []⟩, [curE x.2.2.1, .blk [.int .i64 0, .int .i64 0, .int .i64 0, .str [], .nils], q0z x.1 x.2.2.2.1])
theorem q3k (c : K) (hg : c.good) (hr : rest c ≤ b) : qb8 Try.prog 29 (curE c) (curE (qeg rec c).1) [.ptr 0 0] (resB (qeg rec c).2) := by
  refine q7 c0o 1 (by simp) (by simp) ?_
  have g0 : (q8 rec c).1.good := (qcz hm c).1 hg
  have hr0 : rest (q8 rec c).1 ≤ b := by have := (qcz hm c).2.1; omega
  generalize htg : qeg rec c = tg
  repeat' (first | refine ql ?_ | refine qk ?_ | ((first | refine qn ?_ | refine qm ?_ | refine qz ?_ | refine qj ?_ | refine qi ?_ | refine qc3 (qvp hm ih _ hg hr) rfl ?_ | ((first | refine qf ?_ ?_ | refine qc ?_ ?_) <;> intro hc <;> (try simp only [hc]) <;> (try simp only [qb, qa, decide_eq_true_eq, decide_eq_false_iff_not, Bool.and_eq_true] at hc)) | refine And.intro (by first | assumption | omega | (have := qh (by assumption); omega) | (unfold qs; omega)) ?_ | simp (disch := omega) only [qd] | simp (disch := omega) only [qr]) <;> (try simp only [go_sem, ↓reduceIte, Nat.reduceEqDiff, Nat.reduceAdd, Nat.reduceSub, Nat.reduceMul, Nat.reduceLT, Nat.reduceLeDiff, reduceCtorEq, Int.reduceToNat])))
  refine qc7 (S := Bool × Nat × K × N × Bool) (fun x => x.2.2.1.good ∧ rest x.2.2.1 ≤ b ∧ (x.2.2.2.2 = true → qdj rec x.2.1 x.2.2.1 x.2.2.2.1 = tg ∧ rest x.2.2.1 < x.2.1) ∧ (x.2.2.2.2 = false → tg = (x.2.2.1, x.2.2.2.1, false)))
    q0b (fun x => if x.2.2.2.2 = true then rest x.2.2.1 + 1 else 0) ?_ ?_
  · refine qcq (false, rest (q8 rec c).1 + 1, (q8 rec c).1, (q8 rec c).2.getD N0, (q8 rec c).2.isSome) [0, 1, 2] ⟨g0, hr0, fun h => ⟨?_, Nat.lt_succ_self _⟩, fun h => ?_⟩ rfl (by simp) ?_ ?_ ?_
    · simp only at h; rw [← htg, qeg, if_pos h]
    · simp only at h; rw [← htg, qeg, if_neg (by rw [h]; simp)]
    all_goals simp only [q0b, q0z]
    all_goals simp only [go_sem, ↓reduceIte, Nat.reduceEqDiff, Nat.reduceAdd, Nat.reduceSub, Nat.reduceMul, Nat.reduceLT, Nat.reduceLeDiff, reduceCtorEq, Int.reduceToNat]
  · rintro ⟨fl, fu, d, n, ok⟩ ⟨i1, i2, i3, i4⟩
    simp only at i1 i2 i3 i4
    unfold q0b
    refine q6y ?_
    cases ok with
    | false =>
      have i4 := i4 rfl
      subst i4
      repeat' (first | refine ql ?_ | refine qk ?_ | ((first | refine qn ?_ | refine qm ?_ | refine qz ?_ | refine qj ?_ | refine qi ?_ | ((first | refine qf ?_ ?_ | refine qc ?_ ?_) <;> intro hc <;> (try simp only [hc]) <;> (try simp only [qb, qa, decide_eq_true_eq, decide_eq_false_iff_not, Bool.and_eq_true] at hc)) | refine And.intro (by first | assumption | omega | (have := qh (by assumption); omega) | (unfold qs; omega)) ?_ | simp (disch := omega) only [qd] | simp (disch := omega) only [qr]) <;> (try simp only [go_sem, ↓reduceIte, Nat.reduceEqDiff, Nat.reduceAdd, Nat.reduceSub, Nat.reduceMul, Nat.reduceLT, Nat.reduceLeDiff, reduceCtorEq, Int.reduceToNat])))
    | true =>
      obtain ⟨i3, i5⟩ := i3 rfl
      clear i4
      obtain ⟨fu, rfl⟩ : ∃ k, fu = k + 1 := ⟨fu - 1, by omega⟩
      rw [qdj] at i3
      have j1 : (q8 rec d).1.good := (qcz hm d).1 i1
      have j2 : rest (q8 rec d).1 ≤ rest d := (qcz hm d).2.1
      have key : begE d = true → (((q8 rec d).2.isSome = true → qdj rec fu (q8 rec d).1 (appN n ((q8 rec d).2.getD N0)) = tg ∧ rest (q8 rec d).1 < fu) ∧ ((q8 rec d).2.isSome = false → tg = ((q8 rec d).1, appN n ((q8 rec d).2.getD N0), false))) ∧
          (if (q8 rec d).2.isSome = true then rest (q8 rec d).1 + 1 else 0) < rest d + 1 := fun hb => by
        rw [if_pos hb] at i3
        refine ⟨⟨fun h => ?_, fun h => ?_⟩, ?_⟩
        · rw [if_pos h] at i3
          have := qha hm h
          exact ⟨i3, by omega⟩
        · rw [if_neg (by rw [h]; simp)] at i3
          exact i3.symm
        · split
          · rename_i h
            have := qha hm h
            omega
          · omega
      have e1 : (leafE d).isSome = true → begE d = true := fun h => by rw [begE, h]; rfl
      have e2 : isK d [40] = true → begE d = true := fun h => by rw [begE, h, Bool.or_true]
      repeat' (first | refine ql ?_ | refine qk ?_ | ((first | refine qn ?_ | refine qm ?_ | refine qz ?_ | refine qj ?_ | refine qi ?_ | refine q0y ?_ | refine a_Is ?_ | refine qc3 (qvp hm ih _ i1 i2) rfl ?_ | ((first | refine qf ?_ ?_ | refine qc ?_ ?_) <;> intro hc <;> (try simp only [hc]) <;> (try simp only [qb, qa, decide_eq_true_eq, decide_eq_false_iff_not, Bool.and_eq_true] at hc)) | refine And.intro (by first | assumption | omega | (have := qh (by assumption); omega) | (unfold qs; omega)) ?_ | simp (disch := omega) only [qd] | simp (disch := omega) only [qr]) <;> (try simp only [go_sem, ↓reduceIte, Nat.reduceEqDiff, Nat.reduceAdd, Nat.reduceSub, Nat.reduceMul, Nat.reduceLT, Nat.reduceLeDiff, reduceCtorEq, Int.reduceToNat])))
      · have hb : ¬ begE d = true := by rw [begE]; simp_all
        rw [if_neg hb] at i3
        subst i3
        exact ⟨rfl, rfl⟩
      · obtain ⟨k1, k2⟩ := key (e2 (by assumption))
        refine qcq (true, fu, (q8 rec d).1, appN n ((q8 rec d).2.getD N0), (q8 rec d).2.isSome) [0, 1, 2] ⟨⟨j1, by simp only; omega, k1⟩, by simpa using k2⟩ rfl (by simp) ?_ ?_ ?_
        all_goals simp only [q0b, q0z, appN, encs, N.kind, N.pos, N.num, N.text, N.kids]
        all_goals simp only [go_sem, ↓reduceIte, Nat.reduceEqDiff, Nat.reduceAdd, Nat.reduceSub, Nat.reduceMul, Nat.reduceLT, Nat.reduceLeDiff, reduceCtorEq, Int.reduceToNat]
      · obtain ⟨k1, k2⟩ := key (e1 (by assumption))
        refine qcq (true, fu, (q8 rec d).1, appN n ((q8 rec d).2.getD N0), (q8 rec d).2.isSome) [0, 1, 2] ⟨⟨j1, by simp only; omega, k1⟩, by simpa using k2⟩ rfl (by simp) ?_ ?_ ?_
        all_goals simp only [q0b, q0z, appN, encs, N.kind, N.pos, N.num, N.text, N.kids]
        all_goals simp only [go_sem, ↓reduceIte, Nat.reduceEqDiff, Nat.reduceAdd, Nat.reduceSub, Nat.reduceMul, Nat.reduceLT, Nat.reduceLeDiff, reduceCtorEq, Int.reduceToNat]
end
set_option maxRecDepth 4000

theorem qt6 (t : T) (n : N) : AV.agg [.int .i64 25, .int .i64 t.pos, .int .i64 0, .str t.text, .sl 5 [enc n]] = enc (lamN t n) := by simp only [lamN, enc, encs]
theorem qh7 (k : Int) (t : T) (n : N) : AV.agg [.int .i64 k, .int .i64 t.pos, .int .i64 0, .str t.text, .sl 5 [enc n]] = enc (qrf k t n) := by simp only [qrf, enc, encs]
section
variable {rec : K → K × Option N} {b : Nat} (ih : ∀ c, c.good → rest c < b → qb8 Try.prog 10 (curE c) (curE (rec c).1) [.ptr 0 0] (resP (rec c).2))
include ih
theorem qpw (x : List UInt8) : ∀ (f : Nat) (c : K), c.good → rest c ≤ b → rest c < f → qb8 Try.prog 25 (curE c) (curE (qby rec x f c).1) [.ptr 0 0, .str x] (resB (qby rec x f c).2)
  | 0, c => fun _ _ h => absurd h (by omega)
  | f + 1, c => fun hg hb hf => by
    have g1 : (qt c).good := (qbm c).1 hg
    have g2 : (qq c x).1.good := (qo c x).1 hg
    refine q7 c0k 1 (by simp) (by simp) ?_
    by_cases hk : (qw c).kind = 1
    · have hrn := qbg (c := c) (by omega)
      have hl := qpw x f (qt c) g1 (by omega) (by omega)
      have hpa : qby rec x (f + 1) c = ((qby rec x f (qt c)).1, lamN (qw c) (qby rec x f (qt c)).2.1, (qby rec x f (qt c)).2.2) := by rw [qby, if_pos hk]
      rw [hpa]
      clear hpa
      generalize qby rec x f (qt c) = r at *
      repeat' (first | refine ql ?_ | ((first | refine qn ?_ | refine qm ?_ | refine qj ?_ | refine qi ?_) <;> (try simp (disch := first | omega | (simp only [List.length_set, List.length_append, List.length_cons, List.length_nil]; done) | (simp only [List.length_set, List.length_append, List.length_cons, List.length_nil]; omega)) only [hk, ne_eq, not_true_eq_false, decide_false, go_sem, ↓reduceIte, Nat.reduceEqDiff, Nat.reduceAdd, Nat.reduceSub, Nat.reduceMul, Nat.reduceLT, Nat.reduceLeDiff, reduceCtorEq, Int.reduceToNat])) | ((first | ((first | refine qf ?_ ?_ | refine qc ?_ ?_) <;> intro hc <;> (try simp only [hc]) <;> (try simp only [qb, qa, decide_eq_true_eq, decide_eq_false_iff_not, Bool.and_eq_true] at hc)) | refine And.intro (by first | assumption | omega | (have := qh (by assumption); omega) | (unfold qs; omega)) ?_ | simp (disch := omega) only [qd] | simp (disch := omega) only [qr] | refine qc5 ?_ | refine qhk hg.ok ?_ | refine qn8 hl rfl ?_) <;> (try simp only [go_sem, ↓reduceIte, Nat.reduceEqDiff, Nat.reduceAdd, Nat.reduceSub, Nat.reduceMul, Nat.reduceLT, Nat.reduceLeDiff, reduceCtorEq, Int.reduceToNat])))
      all_goals first | (rw [qt6]; done) | (rw [qt6]; rfl) | (rw [qt6]; exact ⟨rfl, rfl⟩)
    · by_cases hw : (qq c x).2 = true
      · have hlt := qft hw
        have hpa : qby rec x (f + 1) c = ofO (rec (qq c x).1) := by rw [qby, if_neg hk, if_pos hw]
        rw [hpa, ofO]
        repeat' (first | refine ql ?_ | ((first | refine qn ?_ | refine qm ?_ | refine qj ?_ | refine qi ?_) <;> (try simp (disch := first | omega | (simp only [List.length_set, List.length_append, List.length_cons, List.length_nil]; done) | (simp only [List.length_set, List.length_append, List.length_cons, List.length_nil]; omega)) only [hk, hw, ne_eq, not_false_eq_true, decide_true, go_sem, ↓reduceIte, Nat.reduceEqDiff, Nat.reduceAdd, Nat.reduceSub, Nat.reduceMul, Nat.reduceLT, Nat.reduceLeDiff, reduceCtorEq, Int.reduceToNat])) | ((first | ((first | refine qf ?_ ?_ | refine qc ?_ ?_) <;> intro hc <;> (try simp only [hc]) <;> (try simp only [qb, qa, decide_eq_true_eq, decide_eq_false_iff_not, Bool.and_eq_true] at hc)) | refine And.intro (by first | assumption | omega | (have := qh (by assumption); omega) | (unfold qs; omega)) ?_ | simp (disch := omega) only [qd] | simp (disch := omega) only [qr] | refine qc5 ?_ | refine qdc hg.ok ?_ | refine qc3 (ih _ g2 (by omega)) rfl ?_) <;> (try simp only [go_sem, ↓reduceIte, Nat.reduceEqDiff, Nat.reduceAdd, Nat.reduceSub, Nat.reduceMul, Nat.reduceLT, Nat.reduceLeDiff, reduceCtorEq, Int.reduceToNat])))
      · have hpa : qby rec x (f + 1) c = ((qq c x).1, N0, false) := by rw [qby, if_neg hk, if_neg hw]
        rw [hpa]
        repeat' (first | refine ql ?_ | ((first | refine qn ?_ | refine qm ?_ | refine qj ?_ | refine qi ?_) <;> (try simp (disch := first | omega | (simp only [List.length_set, List.length_append, List.length_cons, List.length_nil]; done) | (simp only [List.length_set, List.length_append, List.length_cons, List.length_nil]; omega)) only [hk, hw, ne_eq, not_false_eq_true, decide_true, go_sem, ↓reduceIte, Nat.reduceEqDiff, Nat.reduceAdd, Nat.reduceSub, Nat.reduceMul, Nat.reduceLT, Nat.reduceLeDiff, reduceCtorEq, Int.reduceToNat])) | ((first | ((first | refine qf ?_ ?_ | refine qc ?_ ?_) <;> intro hc <;> (try simp only [hc]) <;> (try simp only [qb, qa, decide_eq_true_eq, decide_eq_false_iff_not, Bool.and_eq_true] at hc)) | refine And.intro (by first | assumption | omega | (have := qh (by assumption); omega) | (unfold qs; omega)) ?_ | simp (disch := omega) only [qd] | simp (disch := omega) only [qr] | refine qc5 ?_ | refine qdc hg.ok ?_) <;> (try simp only [go_sem, ↓reduceIte, Nat.reduceEqDiff, Nat.reduceAdd, Nat.reduceSub, Nat.reduceMul, Nat.reduceLT, Nat.reduceLeDiff, reduceCtorEq, Int.reduceToNat])))
        all_goals first | (rw [qdz]; done) | (rw [qdz]; rfl) | (rw [qdz]; exact ⟨rfl, rfl⟩)
theorem qx9 (c : K) (hg : c.good) (hr : rest c ≤ b) : qb8 Try.prog 46 (curE c) (curE (qbq rec c).1) [.ptr 0 0] (resP (qbq rec c).2) := by
  have g1 : (kindK c 1).1.good := (qc8 c 1).1 hg
  have hr1 : rest (kindK c 1).1 ≤ b := by have := (qc8 c 1).2.1; omega
  have g2 : (qp (kindK c 1).1 [58, 58]).1.good := (q6 _ _).1 g1
  have hl := qpw ih [61] (rest (kindK c 1).1 + 1) (kindK c 1).1 g1 hr1 (Nat.lt_succ_self _)
  have hq := qyj (rest (qp (kindK c 1).1 [58, 58]).1 + 2) (qp (kindK c 1).1 [58, 58]).1 g2 (by omega)
  have ht0 : (qp (kindK c 1).1 [58, 58]).2 = false → (qp (kindK c 1).1 [58, 58]).1 = (kindK c 1).1 := fun h => qdl h
  refine q7 c0l 1 (by simp) (by simp) ?_
  unfold qbq
  generalize qby rec [61] (rest (kindK c 1).1 + 1) (kindK c 1).1 = r at *
  generalize qdo (rest (qp (kindK c 1).1 [58, 58]).1 + 2) (qp (kindK c 1).1 [58, 58]).1 = q at *
  by_cases hk : (kindK c 1).2 = true
  · rw [if_pos hk]
    by_cases ht : (qp (kindK c 1).1 [58, 58]).2 = true
    · rw [if_pos ht]
      cases ho : q.2 with
      | none =>
        rw [ho] at hq
        repeat' (first | refine ql ?_ | ((first | refine qn ?_ | refine qm ?_ | refine qj ?_ | refine qi ?_) <;> (try simp (disch := first | omega | (simp only [List.length_set, List.length_append, List.length_cons, List.length_nil]; done) | (simp only [List.length_set, List.length_append, List.length_cons, List.length_nil]; omega)) only [hk, ht, Option.isSome_none, Option.getD_none, go_sem, ↓reduceIte, Nat.reduceEqDiff, Nat.reduceAdd, Nat.reduceSub, Nat.reduceMul, Nat.reduceLT, Nat.reduceLeDiff, reduceCtorEq, Int.reduceToNat])) | ((first | ((first | refine qf ?_ ?_ | refine qc ?_ ?_) <;> intro hc <;> (try simp only [hc]) <;> (try simp only [qb, qa, decide_eq_true_eq, decide_eq_false_iff_not, Bool.and_eq_true] at hc)) | refine And.intro (by first | assumption | omega | (have := qh (by assumption); omega) | (unfold qs; omega)) ?_ | simp (disch := omega) only [qd] | simp (disch := omega) only [qr] | refine qpc hg.ok ?_ | refine qec g1.ok ?_ | refine qc3 hq rfl ?_) <;> (try simp only [go_sem, ↓reduceIte, Nat.reduceEqDiff, Nat.reduceAdd, Nat.reduceSub, Nat.reduceMul, Nat.reduceLT, Nat.reduceLeDiff, reduceCtorEq, Int.reduceToNat])))
        all_goals first | (rw [qdz]; done) | (rw [qdz]; rfl) | (rw [qdz]; exact ⟨rfl, rfl⟩)
      | some n =>
        rw [ho] at hq
        repeat' (first | refine ql ?_ | ((first | refine qn ?_ | refine qm ?_ | refine qj ?_ | refine qi ?_) <;> (try simp (disch := first | omega | (simp only [List.length_set, List.length_append, List.length_cons, List.length_nil]; done) | (simp only [List.length_set, List.length_append, List.length_cons, List.length_nil]; omega)) only [hk, ht, Option.isSome_some, Option.getD_some, go_sem, ↓reduceIte, Nat.reduceEqDiff, Nat.reduceAdd, Nat.reduceSub, Nat.reduceMul, Nat.reduceLT, Nat.reduceLeDiff, reduceCtorEq, Int.reduceToNat])) | ((first | ((first | refine qf ?_ ?_ | refine qc ?_ ?_) <;> intro hc <;> (try simp only [hc]) <;> (try simp only [qb, qa, decide_eq_true_eq, decide_eq_false_iff_not, Bool.and_eq_true] at hc)) | refine And.intro (by first | assumption | omega | (have := qh (by assumption); omega) | (unfold qs; omega)) ?_ | simp (disch := omega) only [qd] | simp (disch := omega) only [qr] | refine qpc hg.ok ?_ | refine qec g1.ok ?_ | refine qc3 hq rfl ?_) <;> (try simp only [go_sem, ↓reduceIte, Nat.reduceEqDiff, Nat.reduceAdd, Nat.reduceSub, Nat.reduceMul, Nat.reduceLT, Nat.reduceLeDiff, reduceCtorEq, Int.reduceToNat])))
        all_goals first | (rw [qh7]; done) | (rw [qh7]; rfl) | (rw [qh7]; exact ⟨rfl, rfl⟩)
    · rw [if_neg ht]
      have ht : (qp (kindK c 1).1 [58, 58]).2 = false := by simpa using ht
      have ht0 := ht0 ht
      obtain ⟨d, n, ok⟩ := r
      simp only [toO] at hl ⊢
      rw [← ht0] at hl
      cases ok with
      | false =>
        repeat' (first | refine ql ?_ | ((first | refine qn ?_ | refine qm ?_ | refine qj ?_ | refine qi ?_) <;> (try simp (disch := first | omega | (simp only [List.length_set, List.length_append, List.length_cons, List.length_nil]; done) | (simp only [List.length_set, List.length_append, List.length_cons, List.length_nil]; omega)) only [hk, ht, go_sem, ↓reduceIte, Nat.reduceEqDiff, Nat.reduceAdd, Nat.reduceSub, Nat.reduceMul, Nat.reduceLT, Nat.reduceLeDiff, reduceCtorEq, Int.reduceToNat])) | ((first | ((first | refine qf ?_ ?_ | refine qc ?_ ?_) <;> intro hc <;> (try simp only [hc]) <;> (try simp only [qb, qa, decide_eq_true_eq, decide_eq_false_iff_not, Bool.and_eq_true] at hc)) | refine And.intro (by first | assumption | omega | (have := qh (by assumption); omega) | (unfold qs; omega)) ?_ | simp (disch := omega) only [qd] | simp (disch := omega) only [qr] | refine qpc hg.ok ?_ | refine qec g1.ok ?_ | refine qn8 hl rfl ?_) <;> (try simp only [go_sem, ↓reduceIte, Nat.reduceEqDiff, Nat.reduceAdd, Nat.reduceSub, Nat.reduceMul, Nat.reduceLT, Nat.reduceLeDiff, reduceCtorEq, Int.reduceToNat])))
        all_goals first | (rw [qdz]; done) | (rw [qdz]; rfl) | (rw [qdz]; exact ⟨rfl, rfl⟩)
      | true =>
        repeat' (first | refine ql ?_ | ((first | refine qn ?_ | refine qm ?_ | refine qj ?_ | refine qi ?_) <;> (try simp (disch := first | omega | (simp only [List.length_set, List.length_append, List.length_cons, List.length_nil]; done) | (simp only [List.length_set, List.length_append, List.length_cons, List.length_nil]; omega)) only [hk, ht, go_sem, ↓reduceIte, Nat.reduceEqDiff, Nat.reduceAdd, Nat.reduceSub, Nat.reduceMul, Nat.reduceLT, Nat.reduceLeDiff, reduceCtorEq, Int.reduceToNat])) | ((first | ((first | refine qf ?_ ?_ | refine qc ?_ ?_) <;> intro hc <;> (try simp only [hc]) <;> (try simp only [qb, qa, decide_eq_true_eq, decide_eq_false_iff_not, Bool.and_eq_true] at hc)) | refine And.intro (by first | assumption | omega | (have := qh (by assumption); omega) | (unfold qs; omega)) ?_ | simp (disch := omega) only [qd] | simp (disch := omega) only [qr] | refine qpc hg.ok ?_ | refine qec g1.ok ?_ | refine qn8 hl rfl ?_) <;> (try simp only [go_sem, ↓reduceIte, Nat.reduceEqDiff, Nat.reduceAdd, Nat.reduceSub, Nat.reduceMul, Nat.reduceLT, Nat.reduceLeDiff, reduceCtorEq, Int.reduceToNat])))
        all_goals first | (rw [qh7]; done) | (rw [qh7]; rfl) | (rw [qh7]; exact ⟨rfl, rfl⟩)
  · rw [if_neg hk]
    repeat' (first | refine ql ?_ | ((first | refine qn ?_ | refine qm ?_ | refine qj ?_ | refine qi ?_) <;> (try simp (disch := first | omega | (simp only [List.length_set, List.length_append, List.length_cons, List.length_nil]; done) | (simp only [List.length_set, List.length_append, List.length_cons, List.length_nil]; omega)) only [hk, go_sem, ↓reduceIte, Nat.reduceEqDiff, Nat.reduceAdd, Nat.reduceSub, Nat.reduceMul, Nat.reduceLT, Nat.reduceLeDiff, reduceCtorEq, Int.reduceToNat])) | ((first | ((first | refine qf ?_ ?_ | refine qc ?_ ?_) <;> intro hc <;> (try simp only [hc]) <;> (try simp only [qb, qa, decide_eq_true_eq, decide_eq_false_iff_not, Bool.and_eq_true] at hc)) | refine And.intro (by first | assumption | omega | (have := qh (by assumption); omega) | (unfold qs; omega)) ?_ | simp (disch := omega) only [qd] | simp (disch := omega) only [qr] | refine qpc hg.ok ?_) <;> (try simp only [go_sem, ↓reduceIte, Nat.reduceEqDiff, Nat.reduceAdd, Nat.reduceSub, Nat.reduceMul, Nat.reduceLT, Nat.reduceLeDiff, reduceCtorEq, Int.reduceToNat])))
    all_goals first | (rw [qdz]; done) | (rw [qdz]; rfl) | (rw [qdz]; exact ⟨rfl, rfl⟩)
end
set_option maxRecDepth 4000

/-- A function over the variable that holds the cursor. -/
def VClo (g : FuncId) (c c' : K) (r : N × Bool) : Prop := VCalls Try.prog g [curE c, .blk [.ptr 0 0]] [.ptr 1 0] fun H' o => H' = [curE c', .blk [.ptr 0 0]] ∧ o = .val (resB r)
theorem qle (c : K) : [curE c, .blk [.ptr 0 0]].all (Ent.bd 2) = true := by
  simp only [List.all_cons, List.all_nil, qbf, Bool.true_and, Bool.and_true]; rfl
theorem qpz {g : FuncId} {c c' : K} {r : N × Bool} {L : List Ent} {Q : List Ent → VO → Prop} (h : VClo g c c' r) (hq : Q (curE c' :: .blk [.ptr 0 0] :: L) (.val (resB r))) : VApp Try.prog (curE c :: .blk [.ptr 0 0] :: L) (.fn g [] [.ptr 1 0]) [] Q :=
  qgg (first := []) (caps := [.ptr 1 0]) (by
    simp only [List.nil_append]
    refine qh5 (H0 := [curE c, .blk [.ptr 0 0]]) (L := L) h (qle c) rfl ?_
    rintro H1 o ⟨rfl, rfl⟩
    exact ⟨rfl, qle c', q1w _ _, hq⟩)
def qlm (rd : K → R3) (g : FuncId) (c : K) : Prop := VCalls Try.prog 44 [curE c, .blk [.ptr 0 0]] [.ptr 0 0, .fn g [] [.ptr 1 0]] fun H' o =>
  H' = curE (qbh rd c).1 :: .blk [.ptr 0 0] :: accE 5 (encs (qbh rd c).2.1) ∧ o = .val (.tup [accV 2 (encs (qbh rd c).2.1), .bool (qbh rd c).2.2])
def qth (g : FuncId) (x : Nat × K × List N) : AF × List Ent :=
  (⟨[(0, .ptr 0 0), (1, .fn g [] [.ptr 1 0]), (6, accV 2 (encs x.2.2))], []⟩, curE x.2.1 :: .blk [.ptr 0 0] :: accE 5 (encs x.2.2))
theorem qwi {rd : K → R3} {g : FuncId} {b : Nat} (hd : ∀ c, Mon c (rd c).1) (hl : ∀ c, (rd c).2.2 = true → rest (rd c).1 < rest c) (ih : ∀ c, c.good → rest c ≤ b → VClo g c (rd c).1 (rd c).2) (c : K) (hg : c.good) (hr : rest c ≤ b) : qlm rd g c := by
  unfold qlm
  obtain ⟨kk, hk1, hk2, hk0⟩ : ∃ k : Nat, ((qbh rd c).2.1 = [] → k = 2) ∧ ((qbh rd c).2.1 ≠ [] → k = 3) ∧ 2 ≤ k := by
    by_cases h : (qbh rd c).2.1 = []
    · exact ⟨2, fun _ => rfl, fun g => absurd h g, by omega⟩
    · exact ⟨3, fun g => absurd g h, fun _ => rfl, by omega⟩
  refine qil c0j kk (by simpa using hk0) (by simp) ?_
  have g1 : (qq c [123]).1.good := (qo c _).1 hg
  have hr1 : rest (qq c [123]).1 ≤ b := by have := (qo c [123]).2.1; omega
  by_cases hw : (qq c [123]).2 = true
  · have hpa : qbh rd c = qbr rd (rest (qq c [123]).1 + 1) (qq c [123]).1 [] := by rw [qbh, if_pos hw]
    rw [hpa] at hk1 hk2 ⊢
    clear hpa
    generalize htg : qbr rd (rest (qq c [123]).1 + 1) (qq c [123]).1 [] = tg at hk1 hk2 ⊢
    repeat' (first | refine ql ?_ | refine qk ?_ | ((first | refine qn ?_ | refine qm ?_ | refine qj ?_ | refine qi ?_) <;> (try simp (disch := first | omega | (simp only [List.length_set, List.length_append, List.length_cons, List.length_nil]; done) | (simp only [List.length_set, List.length_append, List.length_cons, List.length_nil]; omega)) only [hw, go_sem, ↓reduceIte, Nat.reduceEqDiff, Nat.reduceAdd, Nat.reduceSub, Nat.reduceMul, Nat.reduceLT, Nat.reduceLeDiff, reduceCtorEq, Int.reduceToNat])) | ((first | ((first | refine qf ?_ ?_ | refine qc ?_ ?_) <;> intro hc <;> (try simp only [hc]) <;> (try simp only [qb, qa, decide_eq_true_eq, decide_eq_false_iff_not, Bool.and_eq_true] at hc)) | refine And.intro (by first | assumption | omega | (have := qh (by assumption); omega) | (unfold qs; omega)) ?_ | simp (disch := omega) only [qd] | simp (disch := omega) only [qr] | refine qdc hg.ok ?_) <;> (try simp only [go_sem, ↓reduceIte, Nat.reduceEqDiff, Nat.reduceAdd, Nat.reduceSub, Nat.reduceMul, Nat.reduceLT, Nat.reduceLeDiff, reduceCtorEq, Int.reduceToNat])))
    refine qc7 (S := Nat × K × List N) (fun x => x.2.1.good ∧ rest x.2.1 ≤ b ∧ qbr rd x.1 x.2.1 x.2.2 = tg ∧ rest x.2.1 < x.1 ∧ x.2.2.length + rest x.2.1 ≤ 1048577)
      (qth g) (fun x => rest x.2.1) ?_ ?_
    · refine qcq (rest (qq c [123]).1 + 1, (qq c [123]).1, []) [0, 1] ⟨g1, hr1, htg, Nat.lt_succ_self _, ?_⟩ rfl (by simp) ?_ ?_ ?_
      · have h9 := g1.rest
        unfold rest
        simp only [List.length_nil]
        omega
      all_goals simp only [qth, encs, qb7, qcb]
      all_goals simp only [go_sem, ↓reduceIte, Nat.reduceEqDiff, Nat.reduceAdd, Nat.reduceSub, Nat.reduceMul, Nat.reduceLT, Nat.reduceLeDiff, reduceCtorEq, Int.reduceToNat]
    · rintro ⟨fu, d, acc⟩ ⟨i1, i2, i3, i4, i5⟩
      simp only at i1 i2 i3 i4 i5
      obtain ⟨fu, rfl⟩ : ∃ k, fu = k + 1 := ⟨fu - 1, by omega⟩
      rw [qbr] at i3
      have hcap : qs (acc.length + 1) 64 := capN (by omega)
      have hclo := ih d i1 i2
      have hlt := hl d
      have j1 : (rd d).1.good := (hd d).1 i1
      have j2 := (hd d).2.1
      generalize rd d = r at *
      obtain ⟨d', n, ok⟩ := r
      simp only at j1 j2 hlt i3 hclo
      unfold qth q69
      generalize h9 : q7p = R9
      cases ok with
      | false =>
        rw [if_neg (by simp)] at i3
        subst i3
        obtain rfl := hk1 rfl
        by_cases h0 : acc = []
        · subst h0
          simp only [encs, qb7, qcb]
          repeat' (first | refine ql ?_ | refine qk ?_ | ((first | refine qn ?_ | refine qm ?_ | refine qj ?_ | refine qi ?_ | refine qpz hclo ?_ | ((first | refine qf ?_ ?_ | refine qc ?_ ?_) <;> intro hc <;> (try simp only [hc]) <;> (try simp only [qb, qa, decide_eq_true_eq, decide_eq_false_iff_not, Bool.and_eq_true] at hc)) | refine And.intro (by first | assumption | omega | (have := qh (by assumption); omega) | (unfold qs; omega)) ?_ | simp (disch := omega) only [qd] | simp (disch := omega) only [qr]) <;> (try simp only [go_sem, ↓reduceIte, Nat.reduceEqDiff, Nat.reduceAdd, Nat.reduceSub, Nat.reduceMul, Nat.reduceLT, Nat.reduceLeDiff, reduceCtorEq, Int.reduceToNat])))
          all_goals first | exact ⟨rfl, rfl⟩
        · have hne := qcn h0
          simp only [qch hne, qci hne, qca]
          repeat' (first | refine ql ?_ | refine qk ?_ | ((first | refine qn ?_ | refine qm ?_ | refine qj ?_ | refine qi ?_ | refine qpz hclo ?_ | ((first | refine qf ?_ ?_ | refine qc ?_ ?_) <;> intro hc <;> (try simp only [hc]) <;> (try simp only [qb, qa, decide_eq_true_eq, decide_eq_false_iff_not, Bool.and_eq_true] at hc)) | refine And.intro (by first | assumption | omega | (have := qh (by assumption); omega) | (unfold qs; omega)) ?_ | simp (disch := omega) only [qd] | simp (disch := omega) only [qr]) <;> (try simp only [go_sem, ↓reduceIte, Nat.reduceEqDiff, Nat.reduceAdd, Nat.reduceSub, Nat.reduceMul, Nat.reduceLT, Nat.reduceLeDiff, reduceCtorEq, Int.reduceToNat])))
          all_goals first | exact ⟨rfl, rfl⟩
      | true =>
        have hlt := hlt rfl
        rw [if_pos rfl] at i3
        by_cases h0 : acc = []
        · subst h0
          simp only [encs, qb7, qcb]
          repeat' (first | refine ql ?_ | refine qk ?_ | ((first | refine qn ?_ | refine qm ?_ | refine qj ?_ | refine qi ?_ | refine qpz hclo ?_ | ((first | refine qf ?_ ?_ | refine qc ?_ ?_) <;> intro hc <;> (try simp only [hc]) <;> (try simp only [qb, qa, decide_eq_true_eq, decide_eq_false_iff_not, Bool.and_eq_true] at hc)) | refine And.intro (by first | assumption | omega | (have := qh (by assumption); omega) | (unfold qs; omega)) ?_ | simp (disch := omega) only [qd] | simp (disch := omega) only [qr]) <;> (try simp only [go_sem, ↓reduceIte, Nat.reduceEqDiff, Nat.reduceAdd, Nat.reduceSub, Nat.reduceMul, Nat.reduceLT, Nat.reduceLeDiff, reduceCtorEq, Int.reduceToNat])))
          refine qblf (af' := ⟨[(0, .ptr 0 0), (1, .fn g [] [.ptr 1 0]), (6, .row 2 1)], []⟩) (H' := [curE d', .blk [.ptr 0 0], .app 5 (encs ([] ++ [n]))]) ?_ (qbet [0, 1, 3] rfl (by simp) ?_ ?_ ?_)
          rotate_left
          all_goals (try simp only [← qbd, List.nil_append, encs, List.length_nil])
          all_goals (try simp only [go_sem, ↓reduceIte, Nat.reduceEqDiff, Nat.reduceAdd, Nat.reduceSub, Nat.reduceMul, Nat.reduceLT, Nat.reduceLeDiff, reduceCtorEq, Int.reduceToNat])
          all_goals (try (rw [qbd, qcm, qdq]; exact ⟨rfl, rfl⟩))
          subst h9
          have hta : (qp d' [59]).1.good := (q6 _ _).1 j1
          have htr := (q6 d' [59]).2.1
          have hne3 : ¬ [] ++ [n] = [] := by simp
          have hlen : ([] ++ [n]).length = 1 := by simp
          repeat' (first | refine ql ?_ | refine qk ?_ | ((first | refine qn ?_ | refine qm ?_ | refine qj ?_ | refine qi ?_ | refine qec j1.ok ?_ | refine a_Is ?_ | refine qdc hta.ok ?_ | ((first | refine qf ?_ ?_ | refine qc ?_ ?_) <;> intro hc <;> (try simp only [hc]) <;> (try simp only [qb, qa, decide_eq_true_eq, decide_eq_false_iff_not, Bool.and_eq_true] at hc)) | refine And.intro (by first | assumption | omega | (have := qh (by assumption); omega) | (unfold qs; omega)) ?_ | simp (disch := omega) only [qd] | simp (disch := omega) only [qr]) <;> (try simp only [go_sem, ↓reduceIte, Nat.reduceEqDiff, Nat.reduceAdd, Nat.reduceSub, Nat.reduceMul, Nat.reduceLT, Nat.reduceLeDiff, reduceCtorEq, Int.reduceToNat])))
          · have ht : (qp d' [59]).2 = false := by assumption
            rw [ht, Bool.false_and, if_neg (by simp)] at i3
            subst i3
            obtain rfl := hk2 (by simp)
            simp only [qci (qcn hne3), qch (qcn hne3), qca, hlen, ← qbd]
            simp only [go_sem, ↓reduceIte, Nat.reduceEqDiff, Nat.reduceAdd, Nat.reduceSub, Nat.reduceMul, Nat.reduceLT, Nat.reduceLeDiff, reduceCtorEq, Int.reduceToNat]
            all_goals first | (rw [qbd]; exact qcm _ _) | exact ⟨rfl, rfl⟩ | rfl | (rw [qbd, qcm, qdq]; exact ⟨rfl, rfl⟩)
          · have ht : (qp d' [59]).2 = true := by assumption
            have hi : isK (qp d' [59]).1 [125] = true := by assumption
            rw [ht, hi, Bool.true_and, Bool.not_true, if_neg (by simp)] at i3
            subst i3
            obtain rfl := hk2 (by simp)
            simp only [qci (qcn hne3), qch (qcn hne3), qca, hlen, ← qbd]
            simp only [go_sem, ↓reduceIte, Nat.reduceEqDiff, Nat.reduceAdd, Nat.reduceSub, Nat.reduceMul, Nat.reduceLT, Nat.reduceLeDiff, reduceCtorEq, Int.reduceToNat]
            all_goals first | (rw [qbd]; exact qcm _ _) | exact ⟨rfl, rfl⟩ | rfl | (rw [qbd, qcm, qdq]; exact ⟨rfl, rfl⟩)
          · have ht : (qp d' [59]).2 = true := by assumption
            have hi : isK (qp d' [59]).1 [125] = false := by assumption
            rw [ht, hi, Bool.true_and, Bool.not_false, if_pos rfl] at i3
            have htl := qdm ht
            refine qcq (fu, (qp d' [59]).1, [] ++ [n]) [0, 1, 2] ⟨⟨hta, by simp only; omega, i3, by simp only; omega, by simp only [hlen]; omega⟩, by simp only; omega⟩ rfl (by simp) ?_ ?_ ?_
            all_goals simp only [qth, qci (qcn hne3), qch (qcn hne3), qca, hlen, ← qbd]
            all_goals simp only [go_sem, ↓reduceIte, Nat.reduceEqDiff, Nat.reduceAdd, Nat.reduceSub, Nat.reduceMul, Nat.reduceLT, Nat.reduceLeDiff, reduceCtorEq, Int.reduceToNat]
            all_goals first | (rw [qbd]; exact qcm _ _) | exact ⟨rfl, rfl⟩ | rfl | (rw [qbd, qcm, qdq]; exact ⟨rfl, rfl⟩)
        · have hne := qcn h0
          simp only [qch hne, qci hne, qca]
          repeat' (first | refine ql ?_ | refine qk ?_ | ((first | refine qn ?_ | refine qm ?_ | refine qj ?_ | refine qi ?_ | refine qpz hclo ?_ | ((first | refine qf ?_ ?_ | refine qc ?_ ?_) <;> intro hc <;> (try simp only [hc]) <;> (try simp only [qb, qa, decide_eq_true_eq, decide_eq_false_iff_not, Bool.and_eq_true] at hc)) | refine And.intro (by first | assumption | omega | (have := qh (by assumption); omega) | (unfold qs; omega)) ?_ | simp (disch := omega) only [qd] | simp (disch := omega) only [qr]) <;> (try simp only [go_sem, ↓reduceIte, Nat.reduceEqDiff, Nat.reduceAdd, Nat.reduceSub, Nat.reduceMul, Nat.reduceLT, Nat.reduceLeDiff, reduceCtorEq, Int.reduceToNat])))
          refine qblf (af' := ⟨[(0, .ptr 0 0), (1, .fn g [] [.ptr 1 0]), (6, .row 2 (acc.length + 1))], []⟩) (H' := [curE d', .blk [.ptr 0 0], .app 5 (encs (acc ++ [n]))]) ?_ (qbet [0, 1, 4] rfl (by simp) ?_ ?_ ?_)
          rotate_left
          all_goals (try simp only [← qbd, List.nil_append, encs, List.length_nil])
          all_goals (try simp only [go_sem, ↓reduceIte, Nat.reduceEqDiff, Nat.reduceAdd, Nat.reduceSub, Nat.reduceMul, Nat.reduceLT, Nat.reduceLeDiff, reduceCtorEq, Int.reduceToNat])
          all_goals (try (rw [qbd, qcm, qdq]; exact ⟨rfl, rfl⟩))
          subst h9
          have hta : (qp d' [59]).1.good := (q6 _ _).1 j1
          have htr := (q6 d' [59]).2.1
          have hne3 : ¬ acc ++ [n] = [] := by simp
          have hlen : (acc ++ [n]).length = acc.length + 1 := by simp
          repeat' (first | refine ql ?_ | refine qk ?_ | ((first | refine qn ?_ | refine qm ?_ | refine qj ?_ | refine qi ?_ | refine qec j1.ok ?_ | refine a_Is ?_ | refine qdc hta.ok ?_ | ((first | refine qf ?_ ?_ | refine qc ?_ ?_) <;> intro hc <;> (try simp only [hc]) <;> (try simp only [qb, qa, decide_eq_true_eq, decide_eq_false_iff_not, Bool.and_eq_true] at hc)) | refine And.intro (by first | assumption | omega | (have := qh (by assumption); omega) | (unfold qs; omega)) ?_ | simp (disch := omega) only [qd] | simp (disch := omega) only [qr]) <;> (try simp only [go_sem, ↓reduceIte, Nat.reduceEqDiff, Nat.reduceAdd, Nat.reduceSub, Nat.reduceMul, Nat.reduceLT, Nat.reduceLeDiff, reduceCtorEq, Int.reduceToNat])))
          · have ht : (qp d' [59]).2 = false := by assumption
            rw [ht, Bool.false_and, if_neg (by simp)] at i3
            subst i3
            obtain rfl := hk2 (by simp)
            simp only [qci (qcn hne3), qch (qcn hne3), qca, hlen, ← qbd]
            simp only [go_sem, ↓reduceIte, Nat.reduceEqDiff, Nat.reduceAdd, Nat.reduceSub, Nat.reduceMul, Nat.reduceLT, Nat.reduceLeDiff, reduceCtorEq, Int.reduceToNat]
            all_goals first | (rw [qbd]; exact qcm _ _) | exact ⟨rfl, rfl⟩ | rfl | (rw [qbd, qcm, qdq]; exact ⟨rfl, rfl⟩)
          · have ht : (qp d' [59]).2 = true := by assumption
            have hi : isK (qp d' [59]).1 [125] = true := by assumption
            rw [ht, hi, Bool.true_and, Bool.not_true, if_neg (by simp)] at i3
            subst i3
            obtain rfl := hk2 (by simp)
            simp only [qci (qcn hne3), qch (qcn hne3), qca, hlen, ← qbd]
            simp only [go_sem, ↓reduceIte, Nat.reduceEqDiff, Nat.reduceAdd, Nat.reduceSub, Nat.reduceMul, Nat.reduceLT, Nat.reduceLeDiff, reduceCtorEq, Int.reduceToNat]
            all_goals first | (rw [qbd]; exact qcm _ _) | exact ⟨rfl, rfl⟩ | rfl | (rw [qbd, qcm, qdq]; exact ⟨rfl, rfl⟩)
          · have ht : (qp d' [59]).2 = true := by assumption
            have hi : isK (qp d' [59]).1 [125] = false := by assumption
            rw [ht, hi, Bool.true_and, Bool.not_false, if_pos rfl] at i3
            have htl := qdm ht
            refine qcq (fu, (qp d' [59]).1, acc ++ [n]) [0, 1, 2] ⟨⟨hta, by simp only; omega, i3, by simp only; omega, by simp only [hlen]; omega⟩, by simp only; omega⟩ rfl (by simp) ?_ ?_ ?_
            all_goals simp only [qth, qci (qcn hne3), qch (qcn hne3), qca, hlen, ← qbd]
            all_goals simp only [go_sem, ↓reduceIte, Nat.reduceEqDiff, Nat.reduceAdd, Nat.reduceSub, Nat.reduceMul, Nat.reduceLT, Nat.reduceLeDiff, reduceCtorEq, Int.reduceToNat]
            all_goals first | (rw [qbd]; exact qcm _ _) | exact ⟨rfl, rfl⟩ | rfl | (rw [qbd, qcm, qdq]; exact ⟨rfl, rfl⟩)
  · have hpa : qbh rd c = ((qq c [123]).1, [], false) := by rw [qbh, if_neg hw]
    rw [hpa] at hk1 hk2 ⊢
    obtain rfl := hk1 rfl
    repeat' (first | refine ql ?_ | refine qk ?_ | ((first | refine qn ?_ | refine qm ?_ | refine qj ?_ | refine qi ?_) <;> (try simp (disch := first | omega | (simp only [List.length_set, List.length_append, List.length_cons, List.length_nil]; done) | (simp only [List.length_set, List.length_append, List.length_cons, List.length_nil]; omega)) only [hw, go_sem, ↓reduceIte, Nat.reduceEqDiff, Nat.reduceAdd, Nat.reduceSub, Nat.reduceMul, Nat.reduceLT, Nat.reduceLeDiff, reduceCtorEq, Int.reduceToNat])) | ((first | ((first | refine qf ?_ ?_ | refine qc ?_ ?_) <;> intro hc <;> (try simp only [hc]) <;> (try simp only [qb, qa, decide_eq_true_eq, decide_eq_false_iff_not, Bool.and_eq_true] at hc)) | refine And.intro (by first | assumption | omega | (have := qh (by assumption); omega) | (unfold qs; omega)) ?_ | simp (disch := omega) only [qd] | simp (disch := omega) only [qr] | refine qdc hg.ok ?_) <;> (try simp only [go_sem, ↓reduceIte, Nat.reduceEqDiff, Nat.reduceAdd, Nat.reduceSub, Nat.reduceMul, Nat.reduceLT, Nat.reduceLeDiff, reduceCtorEq, Int.reduceToNat])))
    exact ⟨rfl, rfl⟩
set_option maxRecDepth 4000

theorem qk7 {rd : K → R3} (hd : ∀ c, Mon c (rd c).1) (hl : ∀ c, (rd c).2.2 = true → rest (rd c).1 < rest c) : ∀ (f : Nat) (c : K) (acc : List N), (qbr rd f c acc).2.1.length ≤ acc.length + rest c
  | 0, c, acc => by simp [qbr]
  | f + 1, c, acc => by
    rw [qbr]
    split
    · rename_i h
      have h1 := hl c h
      split
      · have h2 := qk7 hd hl f (qp (rd c).1 [59]).1 (acc ++ [(rd c).2.1])
        have h3 := (q6 (rd c).1 [59]).2.1
        simp only [List.length_append, List.length_cons, List.length_nil] at h2
        omega
      · simp only [List.length_append, List.length_cons, List.length_nil]; omega
    · simp
theorem qm6 {rd : K → R3} (hd : ∀ c, Mon c (rd c).1) (hl : ∀ c, (rd c).2.2 = true → rest (rd c).1 < rest c) (c : K) : (qbh rd c).2.1.length ≤ rest c := by
  unfold qbh
  split
  · have h1 := qk7 hd hl (rest (qq c [123]).1 + 1) (qq c [123]).1 []
    have h2 := (qo c [123]).2.1
    simp only [List.length_nil] at h1
    omega
  · simp
theorem ql7 {rd : K → R3} : ∀ (f : Nat) (c : K) (acc : List N), (qbr rd f c acc).2.2 = true → (qbr rd f c acc).2.1 ≠ []
  | 0, c, acc => fun h => by cases h
  | f + 1, c, acc => fun h => by
    rw [qbr] at h ⊢
    split at h
    · rename_i h1
      rw [if_pos h1]
      split at h
      · rename_i h2
        rw [if_pos h2]
        exact ql7 f _ _ h
      · rename_i h2
        rw [if_neg h2]
        simp
    · cases h
theorem qxf {rd : K → R3} {c : K} (h : (qbh rd c).2.2 = true) : (qbh rd c).2.1 ≠ [] := by
  unfold qbh at h ⊢
  split at h
  · rename_i h1
    rw [if_pos h1]
    exact ql7 _ _ _ h
  · cases h
theorem qta {rd : K → R3} {g : FuncId} {c : K} (h : qlm rd g c) (h0 : (qbh rd c).2.1 = []) {L : List Ent} {Q : List Ent → VO → Prop} (hq : Q (curE (qbh rd c).1 :: .blk [.ptr 0 0] :: L) (.val (.tup [.nils, .bool (qbh rd c).2.2]))) :
    VApp Try.prog (curE c :: .blk [.ptr 0 0] :: L) (.fn 44 [] []) [.ptr 0 0, .fn g [] [.ptr 1 0]] Q :=
  qgg (first := []) (caps := []) (by
    simp only [List.nil_append, List.append_nil]
    refine qh5 (H0 := [curE c, .blk [.ptr 0 0]]) (L := L) h (qle c) rfl ?_
    rintro H1 o ⟨rfl, rfl⟩
    rw [h0]
    exact ⟨rfl, qle _, rfl, hq⟩)
theorem qsk {rd : K → R3} {g : FuncId} {c : K} (h : qlm rd g c) (h0 : (qbh rd c).2.1 ≠ []) {L : List Ent} {Q : List Ent → VO → Prop}
    (hq : Q (curE (qbh rd c).1 :: .blk [.ptr 0 0] :: (L ++ [.app 5 (encs (qbh rd c).2.1)])) (.val (.tup [.row (L.length + 2) (qbh rd c).2.1.length, .bool (qbh rd c).2.2]))) :
    VApp Try.prog (curE c :: .blk [.ptr 0 0] :: L) (.fn 44 [] []) [.ptr 0 0, .fn g [] [.ptr 1 0]] Q :=
  qgg (first := []) (caps := []) (by
    simp only [List.nil_append, List.append_nil]
    have hne := qcn h0
    have hs : AV.rens (sg [0, 1]) [.ptr 0 0, .fn g [] [.ptr 1 0]] = [.ptr 0 0, .fn g [] [.ptr 1 0]] := rfl
    rw [← hs]
    have ha : AV.bds 2 [.ptr 0 0, .fn g [] [.ptr 1 0]] = true := rfl
    have napp_ren : ∀ σ : Nat → Nat, (Ent.app 5 (encs (qbh rd c).2.1)).ren σ = .app 5 (encs (qbh rd c).2.1) := fun σ => Ent.ren_same (m := 0) (fun i hi => by omega) _ (by simp [Ent.bd, qcm])
    have hp : ∀ σ : Nat → Nat, σ 0 = 0 → (Ent.blk [.ptr 0 0]).ren σ = .blk [.ptr 0 0] := fun σ h => by simp [Ent.ren, AV.rens, AV.ren, h]
    refine qfc (H0 := [curE c, .blk [.ptr 0 0]]) [0, 1] h (by simp) (by simp) rfl ?_ ha ?_
    · intro j e2 hj
      have hj2 : j < 2 := by have := (List.getElem?_eq_some_iff.1 hj).1; simpa using this
      have : j = 0 ∨ j = 1 := by omega
      rcases this with rfl | rfl
      · simp only [List.getElem?_cons_zero, Option.some.injEq] at hj
        subst hj
        exact .inr ⟨qbf _ _, by rw [qlh]; rfl⟩
      · simp only [List.getElem?_cons_succ, List.getElem?_cons_zero, Option.some.injEq] at hj
        subst hj
        exact .inr ⟨rfl, rfl⟩
    rintro H1 o ⟨rfl, rfl⟩
    have hq2 : (Ent.blk [.ptr 0 0]).ren (sg' [0, 1] (L.length + 1 + 1)) = .blk [.ptr 0 0] := hp _ rfl
    simp only [qci hne, qch hne, qca, List.length_cons, List.length_nil, List.take_succ_cons, List.take_zero, List.map_nil, qb5, List.drop_zero, List.drop_succ_cons, List.map_cons, qlh, napp_ren, hq2, VO.ren, AV.ren, AV.rens, List.set_cons_zero, List.set_cons_succ]
    exact hq)
def posZ (p : Int) : AV := .agg [.int .i64 0, .int .i64 p, .int .i64 0, .str [], .nils]
theorem qkh (p : Int) : AV.agg [.int .i64 0, .int .i64 p, .int .i64 0, .str [], .sl 5 []] = enc (posN p) := by simp only [posN, enc, encs]
theorem qu3 (p e : N) : AV.agg [.int .i64 15, .int .i64 p.pos, .int .i64 0, .str [], .sl 5 [enc p, enc e]] = enc (altN p e) := by simp only [altN, enc, encs]
section
variable {rec : K → K × Option N} {b : Nat} (ih : ∀ c, c.good → rest c < b → qb8 Try.prog 10 (curE c) (curE (rec c).1) [.ptr 0 0] (resP (rec c).2))
include ih
theorem q4i (c : K) (hg : c.good) (hr : rest c ≤ b) : VClo 45 c (ofO (qbq rec c)).1 (ofO (qbq rec c)).2 := by
  refine q7 c0h 2 (by simp) (by simp) ?_
  repeat' (first | refine ql ?_ | ((first | refine qn ?_ | refine qm ?_ | refine qc3 (qx9 ih c hg hr) rfl ?_ | ((first | refine qf ?_ ?_ | refine qc ?_ ?_) <;> intro hc <;> (try simp only [hc]) <;> (try simp only [qb, qa, decide_eq_true_eq, decide_eq_false_iff_not, Bool.and_eq_true] at hc)) | refine And.intro (by first | assumption | omega | (have := qh (by assumption); omega) | (unfold qs; omega)) ?_ | simp (disch := omega) only [qd] | simp (disch := omega) only [qr]) <;> (try simp only [go_sem, ↓reduceIte, Nat.reduceEqDiff, Nat.reduceAdd, Nat.reduceSub, Nat.reduceMul, Nat.reduceLT, Nat.reduceLeDiff, reduceCtorEq, Int.reduceToNat])))
  exact ⟨rfl, rfl⟩
theorem qxw (c : K) (hg : c.good) (hr : rest c ≤ b) : VClo 47 c (qdf rec c).1 (qdf rec c).2 := by
  have hp := qbbf (rest c + 2) c hg (by omega)
  have g1 : (qbx (rest c + 2) c).1.good := (qd8 _ c).1 hg
  have hr1 : rest (qbx (rest c + 2) c).1 ≤ b := by have := (qd8 (rest c + 2) c).2.1; omega
  refine q7 c0i 2 (by simp) (by simp) ?_
  unfold qdf
  generalize qbx (rest c + 2) c = r at *
  obtain ⟨d, o⟩ := r
  simp only at hp g1 hr1 ⊢
  have g2 : (qq d [45, 62]).1.good := (qo _ _).1 g1
  have hlt : (qq d [45, 62]).2 = true → rest (qq d [45, 62]).1 < b := fun h => by have := qft h; omega
  unfold altB altC
  cases o with
  | none =>
    repeat' (first | refine ql ?_ | ((first | refine qn ?_ | refine qm ?_ | refine qj ?_ | refine qi ?_) <;> (try simp (disch := first | omega | (simp only [List.length_set, List.length_append, List.length_cons, List.length_nil]; done) | (simp only [List.length_set, List.length_append, List.length_cons, List.length_nil]; omega)) only [Option.isSome_none, Option.getD_none, go_sem, ↓reduceIte, Nat.reduceEqDiff, Nat.reduceAdd, Nat.reduceSub, Nat.reduceMul, Nat.reduceLT, Nat.reduceLeDiff, reduceCtorEq, Int.reduceToNat])) | ((first | ((first | refine qf ?_ ?_ | refine qc ?_ ?_) <;> intro hc <;> (try simp only [hc]) <;> (try simp only [qb, qa, decide_eq_true_eq, decide_eq_false_iff_not, Bool.and_eq_true] at hc)) | refine And.intro (by first | assumption | omega | (have := qh (by assumption); omega) | (unfold qs; omega)) ?_ | simp (disch := omega) only [qd] | simp (disch := omega) only [qr] | refine qc3 hp rfl ?_) <;> (try simp only [go_sem, ↓reduceIte, Nat.reduceEqDiff, Nat.reduceAdd, Nat.reduceSub, Nat.reduceMul, Nat.reduceLT, Nat.reduceLeDiff, reduceCtorEq, Int.reduceToNat])))
    all_goals (try rfl)
  | some p =>
    by_cases hw : (qq d [45, 62]).2 = true
    · have hr := ih _ g2 (hlt hw)
      repeat' (first | refine ql ?_ | ((first | refine qn ?_ | refine qm ?_ | refine qj ?_ | refine qi ?_) <;> (try simp (disch := first | omega | (simp only [List.length_set, List.length_append, List.length_cons, List.length_nil]; done) | (simp only [List.length_set, List.length_append, List.length_cons, List.length_nil]; omega)) only [hw, Option.isSome_some, Option.getD_some, go_sem, ↓reduceIte, Nat.reduceEqDiff, Nat.reduceAdd, Nat.reduceSub, Nat.reduceMul, Nat.reduceLT, Nat.reduceLeDiff, reduceCtorEq, Int.reduceToNat])) | ((first | ((first | refine qf ?_ ?_ | refine qc ?_ ?_) <;> intro hc <;> (try simp only [hc]) <;> (try simp only [qb, qa, decide_eq_true_eq, decide_eq_false_iff_not, Bool.and_eq_true] at hc)) | refine And.intro (by first | assumption | omega | (have := qh (by assumption); omega) | (unfold qs; omega)) ?_ | simp (disch := omega) only [qd] | simp (disch := omega) only [qr] | refine qc3 hp rfl ?_ | refine qdc g1.ok ?_ | refine qc3 hr rfl ?_) <;> (try simp only [go_sem, ↓reduceIte, Nat.reduceEqDiff, Nat.reduceAdd, Nat.reduceSub, Nat.reduceMul, Nat.reduceLT, Nat.reduceLeDiff, reduceCtorEq, Int.reduceToNat])))
      all_goals first | (rw [qu3]; done) | (rw [qu3]; rfl) | (rw [qu3]; exact ⟨rfl, rfl⟩)
    · repeat' (first | refine ql ?_ | ((first | refine qn ?_ | refine qm ?_ | refine qj ?_ | refine qi ?_) <;> (try simp (disch := first | omega | (simp only [List.length_set, List.length_append, List.length_cons, List.length_nil]; done) | (simp only [List.length_set, List.length_append, List.length_cons, List.length_nil]; omega)) only [hw, Option.isSome_some, Option.getD_some, go_sem, ↓reduceIte, Nat.reduceEqDiff, Nat.reduceAdd, Nat.reduceSub, Nat.reduceMul, Nat.reduceLT, Nat.reduceLeDiff, reduceCtorEq, Int.reduceToNat])) | ((first | ((first | refine qf ?_ ?_ | refine qc ?_ ?_) <;> intro hc <;> (try simp only [hc]) <;> (try simp only [qb, qa, decide_eq_true_eq, decide_eq_false_iff_not, Bool.and_eq_true] at hc)) | refine And.intro (by first | assumption | omega | (have := qh (by assumption); omega) | (unfold qs; omega)) ?_ | simp (disch := omega) only [qd] | simp (disch := omega) only [qr] | refine qc3 hp rfl ?_ | refine qdc g1.ok ?_) <;> (try simp only [go_sem, ↓reduceIte, Nat.reduceEqDiff, Nat.reduceAdd, Nat.reduceSub, Nat.reduceMul, Nat.reduceLT, Nat.reduceLeDiff, reduceCtorEq, Int.reduceToNat])))
      all_goals (try rfl)
end
set_option maxRecDepth 4000

theorem qbfk (p : Int) (l : List N) (k : N) : AV.agg [.int .i64 26, .int .i64 p, .int .i64 0, .str [], .sl 5 (encs l ++ [enc k])] = enc (.mk 26 p 0 [] (l ++ [k])) := by simp only [enc, qbd]
section
variable {rec : K → K × Option N} {b : Nat} (hm : ∀ c, Mon c (rec c).1) (ih : ∀ c, c.good → rest c < b → qb8 Try.prog 10 (curE c) (curE (rec c).1) [.ptr 0 0] (resP (rec c).2))
include hm ih
theorem q80 (p : Int) (c : K) (hg : c.good) (hr : rest c ≤ b) : qb8 Try.prog 26 (curE c) (curE (qfz rec p c).1) [.ptr 0 0, posZ p] (resB (qfz rec p c).2) := by
  have hd : ∀ c, Mon c (ofO (qbq rec c)).1 := fun c => qgp hm c
  have hl : ∀ c, (ofO (qbq rec c)).2.2 = true → rest (ofO (qbq rec c)).1 < rest c := fun c h => qkv hm h
  have hS := qwi (g := 45) hd hl (fun c g r => q4i ih c g r) c hg hr
  have hlen := qm6 hd hl c
  have hne := @qxf (fun c => ofO (qbq rec c)) c
  have g1 : (qbh (fun c => ofO (qbq rec c)) c).1.good := (qfn hd c).1 hg
  have hr1 : rest (qbh (fun c => ofO (qbq rec c)) c).1 ≤ b := by have := (qfn hd c).2.1; omega
  have happ0 := @qta _ _ _ hS
  have happ1 := @qsk _ _ _ hS
  have hgr := hg.rest
  clear hS hd hl
  refine q7 c0d 1 (by simp) (by simp [posZ]) ?_
  unfold qfz posZ
  generalize qbh (fun c => ofO (qbq rec c)) c = L at *
  obtain ⟨d, l, ok⟩ := L
  simp only at hlen hne g1 hr1 happ0 happ1
  have g2 : (qq d [105, 110]).1.good := (qo _ _).1 g1
  have hlt : (qq d [105, 110]).2 = true → rest (qq d [105, 110]).1 < b := fun h => by have := qft h; omega
  have hcap : qs (l.length + 1) 64 := capN (by unfold rest at hlen; omega)
  unfold letB letC
  by_cases h0 : l = []
  · subst h0
    have ok0 : ok = false := by cases ok with | false => rfl | true => exact absurd rfl (hne rfl)
    subst ok0
    repeat' (first | refine ql ?_ | ((first | refine qn ?_ | refine qm ?_ | refine qj ?_ | refine qi ?_ | refine happ0 rfl ?_ | ((first | refine qf ?_ ?_ | refine qc ?_ ?_) <;> intro hc <;> (try simp only [hc]) <;> (try simp only [qb, qa, decide_eq_true_eq, decide_eq_false_iff_not, Bool.and_eq_true] at hc)) | refine And.intro (by first | assumption | omega | (have := qh (by assumption); omega) | (unfold qs; omega)) ?_ | simp (disch := omega) only [qd] | simp (disch := omega) only [qr]) <;> (try simp only [go_sem, ↓reduceIte, Nat.reduceEqDiff, Nat.reduceAdd, Nat.reduceSub, Nat.reduceMul, Nat.reduceLT, Nat.reduceLeDiff, reduceCtorEq, Int.reduceToNat])))
    all_goals (try rw [qkh])
    all_goals (try exact ⟨rfl, rfl⟩)
  · cases ok with
    | false =>
      repeat' (first | refine ql ?_ | ((first | refine qn ?_ | refine qm ?_ | refine qj ?_ | refine qi ?_ | refine happ1 h0 ?_ | ((first | refine qf ?_ ?_ | refine qc ?_ ?_) <;> intro hc <;> (try simp only [hc]) <;> (try simp only [qb, qa, decide_eq_true_eq, decide_eq_false_iff_not, Bool.and_eq_true] at hc)) | refine And.intro (by first | assumption | omega | (have := qh (by assumption); omega) | (unfold qs; omega)) ?_ | simp (disch := omega) only [qd] | simp (disch := omega) only [qr]) <;> (try simp only [go_sem, ↓reduceIte, Nat.reduceEqDiff, Nat.reduceAdd, Nat.reduceSub, Nat.reduceMul, Nat.reduceLT, Nat.reduceLeDiff, reduceCtorEq, Int.reduceToNat])))
      all_goals (try rw [qkh])
      all_goals (try exact ⟨rfl, rfl⟩)
    | true =>
      by_cases hw : (qq d [105, 110]).2 = true
      · have hr := ih _ g2 (hlt hw)
        repeat' (first | refine ql ?_ | ((first | refine qn ?_ | refine qm ?_ | refine qj ?_ | refine qi ?_) <;> (try simp (disch := first | omega | (simp only [List.length_set, List.length_append, List.length_cons, List.length_nil]; done) | (simp only [List.length_set, List.length_append, List.length_cons, List.length_nil]; omega)) only [hw, go_sem, ↓reduceIte, Nat.reduceEqDiff, Nat.reduceAdd, Nat.reduceSub, Nat.reduceMul, Nat.reduceLT, Nat.reduceLeDiff, reduceCtorEq, Int.reduceToNat])) | ((first | ((first | refine qf ?_ ?_ | refine qc ?_ ?_) <;> intro hc <;> (try simp only [hc]) <;> (try simp only [qb, qa, decide_eq_true_eq, decide_eq_false_iff_not, Bool.and_eq_true] at hc)) | refine And.intro (by first | assumption | omega | (have := qh (by assumption); omega) | (unfold qs; omega)) ?_ | simp (disch := omega) only [qd] | simp (disch := omega) only [qr] | refine happ1 h0 ?_ | refine qdc g1.ok ?_ | refine qc3 hr rfl ?_) <;> (try simp only [go_sem, ↓reduceIte, Nat.reduceEqDiff, Nat.reduceAdd, Nat.reduceSub, Nat.reduceMul, Nat.reduceLT, Nat.reduceLeDiff, reduceCtorEq, Int.reduceToNat])))
        all_goals (try rw [qbfk])
        all_goals exact ⟨by rw [qbd, qcm], rfl⟩
      · repeat' (first | refine ql ?_ | ((first | refine qn ?_ | refine qm ?_ | refine qj ?_ | refine qi ?_) <;> (try simp (disch := first | omega | (simp only [List.length_set, List.length_append, List.length_cons, List.length_nil]; done) | (simp only [List.length_set, List.length_append, List.length_cons, List.length_nil]; omega)) only [hw, go_sem, ↓reduceIte, Nat.reduceEqDiff, Nat.reduceAdd, Nat.reduceSub, Nat.reduceMul, Nat.reduceLT, Nat.reduceLeDiff, reduceCtorEq, Int.reduceToNat])) | ((first | ((first | refine qf ?_ ?_ | refine qc ?_ ?_) <;> intro hc <;> (try simp only [hc]) <;> (try simp only [qb, qa, decide_eq_true_eq, decide_eq_false_iff_not, Bool.and_eq_true] at hc)) | refine And.intro (by first | assumption | omega | (have := qh (by assumption); omega) | (unfold qs; omega)) ?_ | simp (disch := omega) only [qd] | simp (disch := omega) only [qr] | refine happ1 h0 ?_ | refine qdc g1.ok ?_) <;> (try simp only [go_sem, ↓reduceIte, Nat.reduceEqDiff, Nat.reduceAdd, Nat.reduceSub, Nat.reduceMul, Nat.reduceLT, Nat.reduceLeDiff, reduceCtorEq, Int.reduceToNat])))
        all_goals (try rw [qkh])
        all_goals (try exact ⟨rfl, rfl⟩)
theorem qzo (p : Int) (c : K) (hg : c.good) (hr : rest c < b) : qb8 Try.prog 27 (curE c) (curE (qea rec p c).1) [.ptr 0 0, posZ p] (resB (qea rec p c).2) := by
  have hd : ∀ c, Mon c (qdf rec c).1 := fun c => qj6 hm c
  have hl : ∀ c, (qdf rec c).2.2 = true → rest (qdf rec c).1 < rest c := fun c h => qmb hm h
  have hx := ih c hg hr
  have g1 : (rec c).1.good := (hm c).1 hg
  have hr1 := (hm c).2.1
  refine q7 c0e 1 (by simp) (by simp [posZ]) ?_
  unfold qea posZ
  generalize rec c = r0 at *
  obtain ⟨d0, o⟩ := r0
  simp only at g1 hr1 hx ⊢
  have g2 : (qq d0 [111, 102]).1.good := (qo _ _).1 g1
  have hr2 : rest (qq d0 [111, 102]).1 ≤ b := by have := (qo d0 [111, 102]).2.1; omega
  have hS := qwi (g := 47) hd hl (fun c g r => qxw ih c g r) (qq d0 [111, 102]).1 g2 hr2
  have hlen := qm6 hd hl (qq d0 [111, 102]).1
  have happ0 := @qta _ _ _ hS
  have happ1 := @qsk _ _ _ hS
  have hgr := g2.rest
  clear hS hd hl
  unfold quj qu0
  cases o with
  | none =>
    repeat' (first | refine ql ?_ | ((first | refine qn ?_ | refine qm ?_ | refine qj ?_ | refine qi ?_) <;> (try simp (disch := first | omega | (simp only [List.length_set, List.length_append, List.length_cons, List.length_nil]; done) | (simp only [List.length_set, List.length_append, List.length_cons, List.length_nil]; omega)) only [Option.isSome_none, Option.getD_none, go_sem, ↓reduceIte, Nat.reduceEqDiff, Nat.reduceAdd, Nat.reduceSub, Nat.reduceMul, Nat.reduceLT, Nat.reduceLeDiff, reduceCtorEq, Int.reduceToNat])) | ((first | ((first | refine qf ?_ ?_ | refine qc ?_ ?_) <;> intro hc <;> (try simp only [hc]) <;> (try simp only [qb, qa, decide_eq_true_eq, decide_eq_false_iff_not, Bool.and_eq_true] at hc)) | refine And.intro (by first | assumption | omega | (have := qh (by assumption); omega) | (unfold qs; omega)) ?_ | simp (disch := omega) only [qd] | simp (disch := omega) only [qr] | refine qc3 hx rfl ?_) <;> (try simp only [go_sem, ↓reduceIte, Nat.reduceEqDiff, Nat.reduceAdd, Nat.reduceSub, Nat.reduceMul, Nat.reduceLT, Nat.reduceLeDiff, reduceCtorEq, Int.reduceToNat])))
    all_goals (try rw [qkh])
    all_goals (try exact ⟨rfl, rfl⟩)
  | some x =>
    by_cases hw : (qq d0 [111, 102]).2 = true
    · generalize qbh (qdf rec) (qq d0 [111, 102]).1 = L at *
      obtain ⟨d, l, ok⟩ := L
      simp only at hlen happ0 happ1 ⊢
      have hcap : qs (1 + l.length) 64 := capN (by unfold rest at hlen; omega)
      by_cases h0 : l = []
      · subst h0
        repeat' (first | refine ql ?_ | ((first | refine qn ?_ | refine qm ?_ | refine qj ?_ | refine qi ?_) <;> (try simp (disch := first | omega | (simp only [List.length_set, List.length_append, List.length_cons, List.length_nil]; done) | (simp only [List.length_set, List.length_append, List.length_cons, List.length_nil]; omega)) only [hw, Option.isSome_some, Option.getD_some, go_sem, ↓reduceIte, Nat.reduceEqDiff, Nat.reduceAdd, Nat.reduceSub, Nat.reduceMul, Nat.reduceLT, Nat.reduceLeDiff, reduceCtorEq, Int.reduceToNat])) | ((first | ((first | refine qf ?_ ?_ | refine qc ?_ ?_) <;> intro hc <;> (try simp only [hc]) <;> (try simp only [qb, qa, decide_eq_true_eq, decide_eq_false_iff_not, Bool.and_eq_true] at hc)) | refine And.intro (by first | assumption | omega | (have := qh (by assumption); omega) | (unfold qs; omega)) ?_ | simp (disch := omega) only [qd] | simp (disch := omega) only [qr] | refine qc3 hx rfl ?_ | refine qdc g1.ok ?_ | refine happ0 rfl ?_) <;> (try simp only [go_sem, ↓reduceIte, Nat.reduceEqDiff, Nat.reduceAdd, Nat.reduceSub, Nat.reduceMul, Nat.reduceLT, Nat.reduceLeDiff, reduceCtorEq, Int.reduceToNat])))
        all_goals (try simp only [enc, encs])
      · have hnl : ¬ l.length = 0 := fun h => h0 (List.length_eq_zero_iff.1 h)
        repeat' (first | refine ql ?_ | ((first | refine qn ?_ | refine qm ?_ | refine qj ?_ | refine qi ?_) <;> (try simp (disch := first | omega | (simp only [List.length_set, List.length_append, List.length_cons, List.length_nil]; done) | (simp only [List.length_set, List.length_append, List.length_cons, List.length_nil]; omega)) only [hw, hnl, hcap, Option.isSome_some, Option.getD_some, go_sem, ↓reduceIte, Nat.reduceEqDiff, Nat.reduceAdd, Nat.reduceSub, Nat.reduceMul, Nat.reduceLT, Nat.reduceLeDiff, reduceCtorEq, Int.reduceToNat])) | ((first | ((first | refine qf ?_ ?_ | refine qc ?_ ?_) <;> intro hc <;> (try simp only [hc]) <;> (try simp only [qb, qa, decide_eq_true_eq, decide_eq_false_iff_not, Bool.and_eq_true] at hc)) | refine And.intro (by first | assumption | omega | (have := qh (by assumption); omega) | (unfold qs; omega)) ?_ | simp (disch := omega) only [qd] | simp (disch := omega) only [qr] | refine qc3 hx rfl ?_ | refine qdc g1.ok ?_ | refine happ1 h0 ?_) <;> (try simp only [go_sem, ↓reduceIte, Nat.reduceEqDiff, Nat.reduceAdd, Nat.reduceSub, Nat.reduceMul, Nat.reduceLT, Nat.reduceLeDiff, reduceCtorEq, Int.reduceToNat])))
        have hcm : l.length + 1 = 1 + l.length := Nat.add_comm _ _
        simp only [hcm, if_true, enc, encs, AV.bd, AV.bds, ql4, qcm, Bool.and_true, and_self]
    · repeat' (first | refine ql ?_ | ((first | refine qn ?_ | refine qm ?_ | refine qj ?_ | refine qi ?_) <;> (try simp (disch := first | omega | (simp only [List.length_set, List.length_append, List.length_cons, List.length_nil]; done) | (simp only [List.length_set, List.length_append, List.length_cons, List.length_nil]; omega)) only [hw, Option.isSome_some, Option.getD_some, go_sem, ↓reduceIte, Nat.reduceEqDiff, Nat.reduceAdd, Nat.reduceSub, Nat.reduceMul, Nat.reduceLT, Nat.reduceLeDiff, reduceCtorEq, Int.reduceToNat])) | ((first | ((first | refine qf ?_ ?_ | refine qc ?_ ?_) <;> intro hc <;> (try simp only [hc]) <;> (try simp only [qb, qa, decide_eq_true_eq, decide_eq_false_iff_not, Bool.and_eq_true] at hc)) | refine And.intro (by first | assumption | omega | (have := qh (by assumption); omega) | (unfold qs; omega)) ?_ | simp (disch := omega) only [qd] | simp (disch := omega) only [qr] | refine qc3 hx rfl ?_ | refine qdc g1.ok ?_) <;> (try simp only [go_sem, ↓reduceIte, Nat.reduceEqDiff, Nat.reduceAdd, Nat.reduceSub, Nat.reduceMul, Nat.reduceLT, Nat.reduceLeDiff, reduceCtorEq, Int.reduceToNat])))
      all_goals (try rw [qkh])
      all_goals (try exact ⟨rfl, rfl⟩)
def qy1 (p : Int) (x : Nat × K × List N) : AF × List Ent :=
  (⟨[(0, .ptr 0 0), (3, .ptr 1 0), (4, .ptr 2 0), (11, .agg (ifsW.map AV.str)), (12, .int .i64 x.1)], []⟩,
    curE x.2.1 :: .blk [.int .i64 28, .int .i64 p, .int .i64 0, .str [], accV 3 (encs x.2.2)] :: .blk [.int .i64 0, .int .i64 0, .int .i64 0, .str [], .nils] :: accE 5 (encs x.2.2))
theorem q7q (p : Int) (c : K) (hg : c.good) (hr : rest c < b) : qb8 Try.prog 28 (curE c) (curE (qc6 rec p ifsW c []).1) [.ptr 0 0, posZ p] (resB (qc6 rec p ifsW c []).2) := by
  refine q7 c0f 1 (by simp) (by simp [posZ]) ?_
  unfold posZ
  generalize htg : qc6 rec p ifsW c [] = tg
  have hW : AV.agg (ifsW.map AV.str) = .agg [.str [], .str [116, 104, 101, 110], .str [101, 108, 115, 101]] := rfl
  repeat' (first | refine ql ?_ | refine qk ?_ | ((first | refine qn ?_ | refine qm ?_ | refine qz ?_ | refine qj ?_ | refine qi ?_ | ((first | refine qf ?_ ?_ | refine qc ?_ ?_) <;> intro hc <;> (try simp only [hc]) <;> (try simp only [qb, qa, decide_eq_true_eq, decide_eq_false_iff_not, Bool.and_eq_true] at hc)) | refine And.intro (by first | assumption | omega | (have := qh (by assumption); omega) | (unfold qs; omega)) ?_ | simp (disch := omega) only [qd] | simp (disch := omega) only [qr]) <;> (try simp only [go_sem, ↓reduceIte, Nat.reduceEqDiff, Nat.reduceAdd, Nat.reduceSub, Nat.reduceMul, Nat.reduceLT, Nat.reduceLeDiff, reduceCtorEq, Int.reduceToNat])))
  refine qc7 (S := Nat × K × List N) (fun x => x.1 ≤ 3 ∧ x.2.1.good ∧ rest x.2.1 < b ∧ qc6 rec p (ifsW.drop x.1) x.2.1 x.2.2 = tg ∧ x.2.2.length = x.1)
    (qy1 p) (fun x => 3 - x.1) ?_ ?_
  · refine qcq (0, c, []) [0, 1, 2] ⟨by simp, hg, hr, htg, rfl⟩ rfl (by simp) ?_ ?_ ?_
    all_goals simp only [qy1, hW, encs, qb7, qcb]
    all_goals simp only [go_sem, ↓reduceIte, Nat.reduceEqDiff, Nat.reduceAdd, Nat.reduceSub, Nat.reduceMul, Nat.reduceLT, Nat.reduceLeDiff, reduceCtorEq, Int.reduceToNat]
  · rintro ⟨i, d, acc⟩ ⟨i1, i2, i3, i4, i5⟩
    simp only at i1 i2 i3 i4 i5
    unfold qy1
    by_cases hlt : i < 3
    · have hil : (i : Int) < 3 := by omega
      have hd := qnt (ls := ifsW) (i := i) (by simpa [ifsW] using hlt)
      rw [hd, qc6] at i4
      have hw0 : ifsW.getD i [] = [] ↔ i = 0 := by
        have : i = 0 ∨ i = 1 ∨ i = 2 := by omega
        rcases this with rfl | rfl | rfl <;> simp [ifsW]
      have hln : (ifsW.map AV.str).length = 3 := rfl
      have hln2 : i < ifsW.length := hlt
      have hget : (ifsW.map AV.str).getD i .junk = .str (ifsW.getD i []) := qsf hln2
      clear hd
      generalize ifsW.getD i [] = w at *
      have hab : ∀ k, AV.bds k (ifsW.map AV.str) = true := fun k => qqx k _
      have har : ∀ σ : Nat → Nat, AV.rens σ (ifsW.map AV.str) = ifsW.map AV.str := fun σ => qvg σ _
      generalize hW2 : ifsW.map AV.str = aw at *
      by_cases h0 : i = 0
      · subst h0
        have hw : w = [] := hw0.2 rfl
        have ha : acc = [] := List.length_eq_zero_iff.1 i5
        subst hw ha
        have hx := ih d i2 i3
        have g1 : (rec d).1.good := (hm d).1 i2
        have hr1 := (hm d).2.1
        rw [ifsK, if_pos rfl] at i4
        simp only [if_true] at i4
        generalize rec d = r at *
        obtain ⟨d', o⟩ := r
        simp only at g1 hr1 hx i4
        have hcap : qs 1 64 := capN (by omega)
        simp only [encs, qb7, qcb]
        cases o with
        | none =>
          rw [if_neg (by simp)] at i4
          subst i4
          repeat' (first | refine ql ?_ | refine qk ?_ | ((first | refine qn ?_ | refine qm ?_ | refine qz ?_ | refine qj ?_ | refine qi ?_) <;> (try simp (disch := first | omega | (simp only [List.length_set, List.length_append, List.length_cons, List.length_nil]; done) | (simp only [List.length_set, List.length_append, List.length_cons, List.length_nil]; omega)) only [hil, hget, hln, ne_eq, not_true_eq_false, not_false_eq_true, decide_true, decide_false, Option.isSome_none, Option.isSome_some, Option.getD_none, Option.getD_some, go_sem, ↓reduceIte, Nat.reduceEqDiff, Nat.reduceAdd, Nat.reduceSub, Nat.reduceMul, Nat.reduceLT, Nat.reduceLeDiff, reduceCtorEq, Int.reduceToNat])) | ((first | ((first | refine qf ?_ ?_ | refine qc ?_ ?_) <;> intro hc <;> (try simp only [hc]) <;> (try simp only [qb, qa, decide_eq_true_eq, decide_eq_false_iff_not, Bool.and_eq_true] at hc)) | refine And.intro (by first | assumption | omega | (have := qh (by assumption); omega) | (unfold qs; omega)) ?_ | simp (disch := omega) only [qd] | simp (disch := omega) only [qr] | refine qc3 hx rfl ?_) <;> (try simp only [go_sem, ↓reduceIte, Nat.reduceEqDiff, Nat.reduceAdd, Nat.reduceSub, Nat.reduceMul, Nat.reduceLT, Nat.reduceLeDiff, reduceCtorEq, Int.reduceToNat])))
          all_goals first | (simp only [enc, encs]; done) | (exfalso; omega)
        | some n =>
          rw [if_pos (by rfl)] at i4
          repeat' (first | refine ql ?_ | refine qk ?_ | ((first | refine qn ?_ | refine qm ?_ | refine qz ?_ | refine qj ?_ | refine qi ?_) <;> (try simp (disch := first | omega | (simp only [List.length_set, List.length_append, List.length_cons, List.length_nil]; done) | (simp only [List.length_set, List.length_append, List.length_cons, List.length_nil]; omega)) only [hil, hget, hln, ne_eq, not_true_eq_false, not_false_eq_true, decide_true, decide_false, Option.isSome_none, Option.isSome_some, Option.getD_none, Option.getD_some, go_sem, ↓reduceIte, Nat.reduceEqDiff, Nat.reduceAdd, Nat.reduceSub, Nat.reduceMul, Nat.reduceLT, Nat.reduceLeDiff, reduceCtorEq, Int.reduceToNat])) | ((first | ((first | refine qf ?_ ?_ | refine qc ?_ ?_) <;> intro hc <;> (try simp only [hc]) <;> (try simp only [qb, qa, decide_eq_true_eq, decide_eq_false_iff_not, Bool.and_eq_true] at hc)) | refine And.intro (by first | assumption | omega | (have := qh (by assumption); omega) | (unfold qs; omega)) ?_ | simp (disch := omega) only [qd] | simp (disch := omega) only [qr] | refine qc3 hx rfl ?_) <;> (try simp only [go_sem, ↓reduceIte, Nat.reduceEqDiff, Nat.reduceAdd, Nat.reduceSub, Nat.reduceMul, Nat.reduceLT, Nat.reduceLeDiff, reduceCtorEq, Int.reduceToNat])))
          · refine qcq (1, d', [n]) [0, 1, 2, 4] ⟨⟨by simp, g1, by simp only; omega, by simpa using i4, rfl⟩, by simp⟩ rfl (by simp) ?_ ?_ ?_
            all_goals simp only [qy1, hW2, encs, qf4, qf1]
            all_goals simp only [go_sem, ↓reduceIte, Nat.reduceEqDiff, Nat.reduceAdd, Nat.reduceSub, Nat.reduceMul, Nat.reduceLT, Nat.reduceLeDiff, reduceCtorEq, Int.reduceToNat]
            all_goals (try simp only [hab, har, show IntKind.i64.wrap (0 + 1) = ((1 : Nat) : Int) by rfl, and_self, true_and])
            all_goals (try rfl)
          · exfalso; omega
      · have hwn : (w = []) = False := eq_false (fun h => h0 (hw0.1 h))
        have ha : acc ≠ [] := fun h => h0 (by rw [← i5, h]; rfl)
        have hne := qcn ha
        have hik : ifsK d w = qq d w := by rw [ifsK, if_neg (fun h => h0 (hw0.1 h))]
        rw [hik] at i4
        have g1 : (qq d w).1.good := (qo d w).1 i2
        have hr1 := (qo d w).2.1
        have hx := ih (qq d w).1 g1 (by omega)
        have g2 : (rec (qq d w).1).1.good := (hm _).1 g1
        have hr2 := (hm (qq d w).1).2.1
        have hcap : qs (acc.length + 1) 64 := capN (by omega)
        simp only [qch hne, qci hne, qca]
        by_cases hwt : (qq d w).2 = true
        · rw [if_pos hwt] at i4
          generalize rec (qq d w).1 = r at *
          obtain ⟨d', o⟩ := r
          simp only at g2 hr2 hx i4
          cases o with
          | none =>
            rw [if_neg (by simp)] at i4
            subst i4
            repeat' (first | refine ql ?_ | refine qk ?_ | ((first | refine qn ?_ | refine qm ?_ | refine qz ?_ | refine qj ?_ | refine qi ?_) <;> (try simp (disch := first | omega | (simp only [List.length_set, List.length_append, List.length_cons, List.length_nil]; done) | (simp only [List.length_set, List.length_append, List.length_cons, List.length_nil]; omega)) only [hil, hwn, Nat.mul_one, hget, hln, ne_eq, not_true_eq_false, not_false_eq_true, decide_true, decide_false, Option.isSome_none, Option.isSome_some, Option.getD_none, Option.getD_some, hwt, go_sem, ↓reduceIte, Nat.reduceEqDiff, Nat.reduceAdd, Nat.reduceSub, Nat.reduceMul, Nat.reduceLT, Nat.reduceLeDiff, reduceCtorEq, Int.reduceToNat])) | ((first | ((first | refine qf ?_ ?_ | refine qc ?_ ?_) <;> intro hc <;> (try simp only [hc]) <;> (try simp only [qb, qa, decide_eq_true_eq, decide_eq_false_iff_not, Bool.and_eq_true] at hc)) | refine And.intro (by first | assumption | omega | (have := qh (by assumption); omega) | (unfold qs; omega)) ?_ | simp (disch := omega) only [qd] | simp (disch := omega) only [qr] | refine qc3 hx rfl ?_ | refine qdc i2.ok ?_) <;> (try simp only [go_sem, ↓reduceIte, Nat.reduceEqDiff, Nat.reduceAdd, Nat.reduceSub, Nat.reduceMul, Nat.reduceLT, Nat.reduceLeDiff, reduceCtorEq, Int.reduceToNat])))
            all_goals (simp only [enc, encs])
          | some n =>
            rw [if_pos (by rfl)] at i4
            repeat' (first | refine ql ?_ | refine qk ?_ | ((first | refine qn ?_ | refine qm ?_ | refine qz ?_ | refine qj ?_ | refine qi ?_) <;> (try simp (disch := first | omega | (simp only [List.length_set, List.length_append, List.length_cons, List.length_nil]; done) | (simp only [List.length_set, List.length_append, List.length_cons, List.length_nil]; omega)) only [hil, hwn, Nat.mul_one, hget, hln, ne_eq, not_true_eq_false, not_false_eq_true, decide_true, decide_false, Option.isSome_none, Option.isSome_some, Option.getD_none, Option.getD_some, hwt, go_sem, ↓reduceIte, Nat.reduceEqDiff, Nat.reduceAdd, Nat.reduceSub, Nat.reduceMul, Nat.reduceLT, Nat.reduceLeDiff, reduceCtorEq, Int.reduceToNat])) | ((first | ((first | refine qf ?_ ?_ | refine qc ?_ ?_) <;> intro hc <;> (try simp only [hc]) <;> (try simp only [qb, qa, decide_eq_true_eq, decide_eq_false_iff_not, Bool.and_eq_true] at hc)) | refine And.intro (by first | assumption | omega | (have := qh (by assumption); omega) | (unfold qs; omega)) ?_ | simp (disch := omega) only [qd] | simp (disch := omega) only [qr] | refine qc3 hx rfl ?_ | refine qdc i2.ok ?_) <;> (try simp only [go_sem, ↓reduceIte, Nat.reduceEqDiff, Nat.reduceAdd, Nat.reduceSub, Nat.reduceMul, Nat.reduceLT, Nat.reduceLeDiff, reduceCtorEq, Int.reduceToNat])))
            refine qcq (i + 1, d', acc ++ [n]) [0, 1, 2, 5] ⟨⟨by simp only; omega, g2, by simp only; omega, by simpa using i4, by simp [i5]⟩, by simp only; omega⟩ rfl (by simp) ?_ ?_ ?_
            all_goals simp only [qy1, hW2, ← qbd, qew, qev]
            all_goals simp only [go_sem, ↓reduceIte, Nat.reduceEqDiff, Nat.reduceAdd, Nat.reduceSub, Nat.reduceMul, Nat.reduceLT, Nat.reduceLeDiff, reduceCtorEq, Int.reduceToNat]
            all_goals (try simp only [hab, har, and_self, true_and])
            all_goals (try (rw [qbd, qcm, qdq]; exact ⟨rfl, rfl⟩))
            all_goals (try (rw [qr (by unfold maxLen; omega)]))
        · rw [if_neg hwt] at i4
          subst i4
          repeat' (first | refine ql ?_ | refine qk ?_ | ((first | refine qn ?_ | refine qm ?_ | refine qz ?_ | refine qj ?_ | refine qi ?_) <;> (try simp (disch := first | omega | (simp only [List.length_set, List.length_append, List.length_cons, List.length_nil]; done) | (simp only [List.length_set, List.length_append, List.length_cons, List.length_nil]; omega)) only [hil, hwn, Nat.mul_one, hget, hln, ne_eq, not_true_eq_false, not_false_eq_true, decide_true, decide_false, Option.isSome_none, Option.isSome_some, Option.getD_none, Option.getD_some, hwt, go_sem, ↓reduceIte, Nat.reduceEqDiff, Nat.reduceAdd, Nat.reduceSub, Nat.reduceMul, Nat.reduceLT, Nat.reduceLeDiff, reduceCtorEq, Int.reduceToNat])) | ((first | ((first | refine qf ?_ ?_ | refine qc ?_ ?_) <;> intro hc <;> (try simp only [hc]) <;> (try simp only [qb, qa, decide_eq_true_eq, decide_eq_false_iff_not, Bool.and_eq_true] at hc)) | refine And.intro (by first | assumption | omega | (have := qh (by assumption); omega) | (unfold qs; omega)) ?_ | simp (disch := omega) only [qd] | simp (disch := omega) only [qr] | refine qdc i2.ok ?_) <;> (try simp only [go_sem, ↓reduceIte, Nat.reduceEqDiff, Nat.reduceAdd, Nat.reduceSub, Nat.reduceMul, Nat.reduceLT, Nat.reduceLeDiff, reduceCtorEq, Int.reduceToNat])))
          all_goals (simp only [enc, encs])
    · obtain rfl : i = 3 := by omega
      have hil : ¬ (3 : Int) < 3 := by omega
      have ha : acc ≠ [] := fun h => by rw [h] at i5; cases i5
      have hne := qcn ha
      rw [show ifsW.drop 3 = [] from rfl, qc6] at i4
      subst i4
      simp only [qch hne, qci hne, qca]
      repeat' (first | refine ql ?_ | refine qk ?_ | ((first | refine qn ?_ | refine qm ?_ | refine qz ?_ | refine qj ?_ | refine qi ?_) <;> (try simp (disch := first | omega | (simp only [List.length_set, List.length_append, List.length_cons, List.length_nil]; done) | (simp only [List.length_set, List.length_append, List.length_cons, List.length_nil]; omega)) only [hil, go_sem, ↓reduceIte, Nat.reduceEqDiff, Nat.reduceAdd, Nat.reduceSub, Nat.reduceMul, Nat.reduceLT, Nat.reduceLeDiff, reduceCtorEq, Int.reduceToNat])) | ((first | ((first | refine qf ?_ ?_ | refine qc ?_ ?_) <;> intro hc <;> (try simp only [hc]) <;> (try simp only [qb, qa, decide_eq_true_eq, decide_eq_false_iff_not, Bool.and_eq_true] at hc)) | refine And.intro (by first | assumption | omega | (have := qh (by assumption); omega) | (unfold qs; omega)) ?_ | simp (disch := omega) only [qd] | simp (disch := omega) only [qr]) <;> (try simp only [go_sem, ↓reduceIte, Nat.reduceEqDiff, Nat.reduceAdd, Nat.reduceSub, Nat.reduceMul, Nat.reduceLT, Nat.reduceLeDiff, reduceCtorEq, Int.reduceToNat])))
      all_goals first | (simp only [enc, encs]; done) | (exfalso; omega) | skip
theorem q3q (c : K) (hg : c.good) (hr : rest c ≤ b) : qb8 Try.prog 15 (curE c) (curE (qcs rec c).1) [.ptr 0 0] (resB (qcs rec c).2) := by
  have g1 : (qp c [92]).1.good := (q6 _ _).1 hg
  have g2 : (qp c [108, 101, 116]).1.good := (q6 _ _).1 hg
  have g3 : (qp c [99, 97, 115, 101]).1.good := (q6 _ _).1 hg
  have g4 : (qp c [105, 102]).1.good := (q6 _ _).1 hg
  refine q7 c0g 1 (by simp) (by simp) ?_
  unfold qcs
  by_cases t1 : (qp c [92]).2 = true
  · rw [if_pos t1]
    have l1 := qdm t1
    by_cases hk : (qw (qp c [92]).1).kind = 1
    · rw [if_pos hk]
      have hl := qpw ih [45, 62] (rest (qp c [92]).1 + 1) _ g1 (by omega) (Nat.lt_succ_self _)
      repeat' (first | refine ql ?_ | refine qk ?_ | ((first | refine qkc ?_ | refine qb4 ?_ | refine qm ?_ | refine qj ?_ | refine qi ?_) <;> (try simp (disch := first | omega | (simp only [List.length_set, List.length_append, List.length_cons, List.length_nil]; done) | (simp only [List.length_set, List.length_append, List.length_cons, List.length_nil]; omega)) only [t1, hk, ne_eq, not_true_eq_false, decide_false, go_sem, ↓reduceIte, Nat.reduceEqDiff, Nat.reduceAdd, Nat.reduceSub, Nat.reduceMul, Nat.reduceLT, Nat.reduceLeDiff, reduceCtorEq, Int.reduceToNat])) | ((first | ((first | refine qf ?_ ?_ | refine qc ?_ ?_) <;> intro hc <;> (try simp only [hc]) <;> (try simp only [qb, qa, decide_eq_true_eq, decide_eq_false_iff_not, Bool.and_eq_true] at hc)) | refine And.intro (by first | assumption | omega | (have := qh (by assumption); omega) | (unfold qs; omega)) ?_ | simp (disch := omega) only [qd] | simp (disch := omega) only [qr] | refine qc5 ?_ | refine qec hg.ok ?_ | refine qn8 hl rfl ?_) <;> (try simp only [go_sem, ↓reduceIte, Nat.reduceEqDiff, Nat.reduceAdd, Nat.reduceSub, Nat.reduceMul, Nat.reduceLT, Nat.reduceLeDiff, reduceCtorEq, Int.reduceToNat])))
    · rw [if_neg hk]
      repeat' (first | refine ql ?_ | refine qk ?_ | ((first | refine qkc ?_ | refine qb4 ?_ | refine qm ?_ | refine qj ?_ | refine qi ?_) <;> (try simp (disch := first | omega | (simp only [List.length_set, List.length_append, List.length_cons, List.length_nil]; done) | (simp only [List.length_set, List.length_append, List.length_cons, List.length_nil]; omega)) only [t1, hk, ne_eq, not_false_eq_true, decide_true, go_sem, ↓reduceIte, Nat.reduceEqDiff, Nat.reduceAdd, Nat.reduceSub, Nat.reduceMul, Nat.reduceLT, Nat.reduceLeDiff, reduceCtorEq, Int.reduceToNat])) | ((first | ((first | refine qf ?_ ?_ | refine qc ?_ ?_) <;> intro hc <;> (try simp only [hc]) <;> (try simp only [qb, qa, decide_eq_true_eq, decide_eq_false_iff_not, Bool.and_eq_true] at hc)) | refine And.intro (by first | assumption | omega | (have := qh (by assumption); omega) | (unfold qs; omega)) ?_ | simp (disch := omega) only [qd] | simp (disch := omega) only [qr] | refine qc5 ?_ | refine qec hg.ok ?_ | refine qbkc ?_) <;> (try simp only [go_sem, ↓reduceIte, Nat.reduceEqDiff, Nat.reduceAdd, Nat.reduceSub, Nat.reduceMul, Nat.reduceLT, Nat.reduceLeDiff, reduceCtorEq, Int.reduceToNat])))
      rw [qkh]
  · have t1f : (qp c [92]).2 = false := by simpa using t1
    have e1 := qdl t1f
    rw [if_neg t1]
    by_cases t2 : (qp c [108, 101, 116]).2 = true
    · rw [if_pos t2]
      have l2 := qdm t2
      have hl := q80 hm ih (qw c).pos _ g2 (by omega)
      unfold posZ at hl
      repeat' (first | refine ql ?_ | refine qk ?_ | ((first | refine qkc ?_ | refine qb4 ?_ | refine qm ?_ | refine qj ?_ | refine qi ?_) <;> (try simp (disch := first | omega | (simp only [List.length_set, List.length_append, List.length_cons, List.length_nil]; done) | (simp only [List.length_set, List.length_append, List.length_cons, List.length_nil]; omega)) only [t1f, e1, t2, go_sem, ↓reduceIte, Nat.reduceEqDiff, Nat.reduceAdd, Nat.reduceSub, Nat.reduceMul, Nat.reduceLT, Nat.reduceLeDiff, reduceCtorEq, Int.reduceToNat])) | ((first | ((first | refine qf ?_ ?_ | refine qc ?_ ?_) <;> intro hc <;> (try simp only [hc]) <;> (try simp only [qb, qa, decide_eq_true_eq, decide_eq_false_iff_not, Bool.and_eq_true] at hc)) | refine And.intro (by first | assumption | omega | (have := qh (by assumption); omega) | (unfold qs; omega)) ?_ | simp (disch := omega) only [qd] | simp (disch := omega) only [qr] | refine qc5 ?_ | refine qec hg.ok ?_ | refine qn8 hl rfl ?_) <;> (try simp only [go_sem, ↓reduceIte, Nat.reduceEqDiff, Nat.reduceAdd, Nat.reduceSub, Nat.reduceMul, Nat.reduceLT, Nat.reduceLeDiff, reduceCtorEq, Int.reduceToNat])))
    · have t2f : (qp c [108, 101, 116]).2 = false := by simpa using t2
      have e2 := qdl t2f
      rw [if_neg t2]
      by_cases t3 : (qp c [99, 97, 115, 101]).2 = true
      · rw [if_pos t3]
        have l2 := qdm t3
        have hl := qzo hm ih (qw c).pos _ g3 (by omega)
        unfold posZ at hl
        repeat' (first | refine ql ?_ | refine qk ?_ | ((first | refine qkc ?_ | refine qb4 ?_ | refine qm ?_ | refine qj ?_ | refine qi ?_) <;> (try simp (disch := first | omega | (simp only [List.length_set, List.length_append, List.length_cons, List.length_nil]; done) | (simp only [List.length_set, List.length_append, List.length_cons, List.length_nil]; omega)) only [t1f, e1, t2f, e2, t3, go_sem, ↓reduceIte, Nat.reduceEqDiff, Nat.reduceAdd, Nat.reduceSub, Nat.reduceMul, Nat.reduceLT, Nat.reduceLeDiff, reduceCtorEq, Int.reduceToNat])) | ((first | ((first | refine qf ?_ ?_ | refine qc ?_ ?_) <;> intro hc <;> (try simp only [hc]) <;> (try simp only [qb, qa, decide_eq_true_eq, decide_eq_false_iff_not, Bool.and_eq_true] at hc)) | refine And.intro (by first | assumption | omega | (have := qh (by assumption); omega) | (unfold qs; omega)) ?_ | simp (disch := omega) only [qd] | simp (disch := omega) only [qr] | refine qc5 ?_ | refine qec hg.ok ?_ | refine qn8 hl rfl ?_) <;> (try simp only [go_sem, ↓reduceIte, Nat.reduceEqDiff, Nat.reduceAdd, Nat.reduceSub, Nat.reduceMul, Nat.reduceLT, Nat.reduceLeDiff, reduceCtorEq, Int.reduceToNat])))
      · have t3f : (qp c [99, 97, 115, 101]).2 = false := by simpa using t3
        have e3 := qdl t3f
        rw [if_neg t3]
        by_cases t4 : (qp c [105, 102]).2 = true
        · rw [if_pos t4]
          have l2 := qdm t4
          have hl := q7q hm ih (qw c).pos _ g4 (by omega)
          unfold posZ at hl
          repeat' (first | refine ql ?_ | refine qk ?_ | ((first | refine qkc ?_ | refine qb4 ?_ | refine qm ?_ | refine qj ?_ | refine qi ?_) <;> (try simp (disch := first | omega | (simp only [List.length_set, List.length_append, List.length_cons, List.length_nil]; done) | (simp only [List.length_set, List.length_append, List.length_cons, List.length_nil]; omega)) only [t1f, e1, t2f, e2, t3f, e3, t4, go_sem, ↓reduceIte, Nat.reduceEqDiff, Nat.reduceAdd, Nat.reduceSub, Nat.reduceMul, Nat.reduceLT, Nat.reduceLeDiff, reduceCtorEq, Int.reduceToNat])) | ((first | ((first | refine qf ?_ ?_ | refine qc ?_ ?_) <;> intro hc <;> (try simp only [hc]) <;> (try simp only [qb, qa, decide_eq_true_eq, decide_eq_false_iff_not, Bool.and_eq_true] at hc)) | refine And.intro (by first | assumption | omega | (have := qh (by assumption); omega) | (unfold qs; omega)) ?_ | simp (disch := omega) only [qd] | simp (disch := omega) only [qr] | refine qc5 ?_ | refine qec hg.ok ?_ | refine qn8 hl rfl ?_) <;> (try simp only [go_sem, ↓reduceIte, Nat.reduceEqDiff, Nat.reduceAdd, Nat.reduceSub, Nat.reduceMul, Nat.reduceLT, Nat.reduceLeDiff, reduceCtorEq, Int.reduceToNat])))
        · have t4f : (qp c [105, 102]).2 = false := by simpa using t4
          have e4 := qdl t4f
          rw [if_neg t4]
          have hl := q3k hm ih _ hg hr
          repeat' (first | refine ql ?_ | refine qk ?_ | ((first | refine qkc ?_ | refine qb4 ?_ | refine qm ?_ | refine qj ?_ | refine qi ?_) <;> (try simp (disch := first | omega | (simp only [List.length_set, List.length_append, List.length_cons, List.length_nil]; done) | (simp only [List.length_set, List.length_append, List.length_cons, List.length_nil]; omega)) only [t1f, e1, t2f, e2, t3f, e3, t4f, e4, go_sem, ↓reduceIte, Nat.reduceEqDiff, Nat.reduceAdd, Nat.reduceSub, Nat.reduceMul, Nat.reduceLT, Nat.reduceLeDiff, reduceCtorEq, Int.reduceToNat])) | ((first | ((first | refine qf ?_ ?_ | refine qc ?_ ?_) <;> intro hc <;> (try simp only [hc]) <;> (try simp only [qb, qa, decide_eq_true_eq, decide_eq_false_iff_not, Bool.and_eq_true] at hc)) | refine And.intro (by first | assumption | omega | (have := qh (by assumption); omega) | (unfold qs; omega)) ?_ | simp (disch := omega) only [qd] | simp (disch := omega) only [qr] | refine qc5 ?_ | refine qec hg.ok ?_ | refine qn8 hl rfl ?_) <;> (try simp only [go_sem, ↓reduceIte, Nat.reduceEqDiff, Nat.reduceAdd, Nat.reduceSub, Nat.reduceMul, Nat.reduceLT, Nat.reduceLeDiff, reduceCtorEq, Int.reduceToNat])))
end
end Go.Proofs.Ytmekebfgmjaenaa
