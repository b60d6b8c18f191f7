/- Texts of this proof, joined. -/
import Derived.Test.YtfjbmjplnmaclaaWbb

/- expressions: what is read (plain) -/
namespace Go.Proofs.Ytfjbmjplnmaclaa
open Go Go.RowKit Go.V
set_option linter.unusedVariables false
set_option linter.unusedSimpArgs false

def qkb (c : K) : Option N :=
  if (qba c).kind = 1 then some (qjk c 21 [])
  else if (qba c).kind = 2 then some (qjk c 22 [])
  else if (qba c).kind = 3 then some (.mk 23 (qba c).pos (qba c).num [] [])
  else none
def begE (c : K) : Bool := (qkb c).isSome || isK c [40]
def qbl (rec : K → K × Option N) (c : K) : K × Option N :=
  if (qkb c).isSome = true then (qbg c, qkb c)
  else if isK c [40] = true then
    if (qp c).2 = true then
      if (rec (qbg (qp c).1)).2.isSome = true then
        if (qx (rec (qbg (qp c).1)).1 [41]).2 = true then (qdg (qx (rec (qbg (qp c).1)).1 [41]).1, (rec (qbg (qp c).1)).2)
        else ((qx (rec (qbg (qp c).1)).1 [41]).1, none)
      else ((rec (qbg (qp c).1)).1, none)
    else ((qp c).1, none)
  else (qea c 5, none)
/-- A tree, and whether it is one. -/
abbrev R3 := K × N × Bool
def ofO (r : K × Option N) : R3 := (r.1, r.2.getD N0, r.2.isSome)
def toO (r : R3) : K × Option N := (r.1, if r.2.2 = true then some r.2.1 else none)
def appN (n k : N) : N := .mk 24 n.pos 0 [] [n, k]
def qf6 (rec : K → K × Option N) : Nat → K → N → R3
  | 0, c, n => (c, n, false)
  | f + 1, c, n =>
    if begE c = true then
      if (qbl rec c).2.isSome = true then qf6 rec f (qbl rec c).1 (appN n ((qbl rec c).2.getD N0))
      else ((qbl rec c).1, appN n ((qbl rec c).2.getD N0), false)
    else (c, n, true)
def qhf (rec : K → K × Option N) (c : K) : R3 :=
  if (qbl rec c).2.isSome = true then qf6 rec (rest (qbl rec c).1 + 1) (qbl rec c).1 ((qbl rec c).2.getD N0)
  else ((qbl rec c).1, (qbl rec c).2.getD N0, false)
def lamN (t : T) (n : N) : N := .mk 25 t.pos 0 t.text [n]
def qcw (rec : K → K × Option N) (x : List UInt8) : Nat → K → R3
  | 0, c => (c, N0, false)
  | f + 1, c =>
    if (qba c).kind = 1 then ((qcw rec x f (qbg c)).1, lamN (qba c) (qcw rec x f (qbg c)).2.1, (qcw rec x f (qbg c)).2.2)
    else if (qx c x).2 = true then ofO (rec (qx c x).1)
    else ((qx c x).1, N0, false)
def quq (k : Int) (t : T) (n : N) : N := .mk k t.pos 0 t.text [n]
def qcp (rec : K → K × Option N) (c : K) : K × Option N :=
  if (qbe c 1).2 = true then
    if (qw (qbe c 1).1 [58, 58]).2 = true then
      ((qe3 (rest (qw (qbe c 1).1 [58, 58]).1 + 2) (qw (qbe c 1).1 [58, 58]).1).1, (qe3 (rest (qw (qbe c 1).1 [58, 58]).1 + 2) (qw (qbe c 1).1 [58, 58]).1).2.map (quq 32 (qhc c 1)))
    else ((qcw rec [61] (rest (qbe c 1).1 + 1) (qbe c 1).1).1, (toO (qcw rec [61] (rest (qbe c 1).1 + 1) (qbe c 1).1)).2.map (quq 31 (qhc c 1)))
  else ((qbe c 1).1, none)
/-- Things of a kind with ; between, and } behind them. -/
abbrev RL := K × List N × Bool
def qcy (rd : K → R3) : Nat → K → List N → RL
  | 0, c, _ => (c, [], false)
  | f + 1, c, acc =>
    if (rd c).2.2 = true then
      if ((qw (rd c).1 [59]).2 && !isK (qw (rd c).1 [59]).1 [125]) = true then qcy rd f (qw (rd c).1 [59]).1 (acc ++ [(rd c).2.1])
      else ((qx (qw (rd c).1 [59]).1 [125]).1, acc ++ [(rd c).2.1], (qx (qw (rd c).1 [59]).1 [125]).2)
    else ((rd c).1, [], false)
def qbr (rd : K → R3) (c : K) : RL :=
  if (qx c [123]).2 = true then qcy rd (rest (qx c [123]).1 + 1) (qx c [123]).1 [] else ((qx c [123]).1, [], false)
def posN (p : Int) : N := .mk 0 p 0 [] []
def letC (rec : K → K × Option N) (p : Int) (l : List N) (w : K × Bool) : R3 :=
  if w.2 = true then ((rec w.1).1, .mk 26 p 0 [] (l ++ [(rec w.1).2.getD N0]), (rec w.1).2.isSome) else (w.1, posN p, false)
def letB (rec : K → K × Option N) (p : Int) (l : RL) : R3 :=
  if l.2.2 = true then letC rec p l.2.1 (qx l.1 [105, 110]) else (l.1, posN p, false)
def qjb (rec : K → K × Option N) (p : Int) (c : K) : R3 := letB rec p (qbr (fun c => ofO (qcp rec c)) c)
def altN (p e : N) : N := .mk 15 p.pos 0 [] [p, e]
def altC (rec : K → K × Option N) (p : N) (w : K × Bool) : R3 :=
  if w.2 = true then ((rec w.1).1, altN p ((rec w.1).2.getD N0), (rec w.1).2.isSome) else (w.1, p, false)
def altB (rec : K → K × Option N) (r : K × Option N) : R3 :=
  if r.2.isSome = true then altC rec (r.2.getD N0) (qx r.1 [45, 62]) else (r.1, r.2.getD N0, false)
def qe4 (rec : K → K × Option N) (c : K) : R3 := altB rec (qcq (rest c + 2) c)
def q0c (p : Int) (x : N) (l : RL) : R3 := (l.1, .mk 27 p 0 [] (x :: l.2.1), l.2.2)
def q1x (rec : K → K × Option N) (p : Int) (x : N) (w : K × Bool) : R3 :=
  if w.2 = true then q0c p x (qbr (qe4 rec) w.1) else (w.1, posN p, false)
def qgk (rec : K → K × Option N) (p : Int) (c : K) : R3 :=
  if (rec c).2.isSome = true then q1x rec p ((rec c).2.getD N0) (qx (rec c).1 [111, 102]) else ((rec c).1, posN p, false)
def ifsK (c : K) (w : List UInt8) : K × Bool := if w = [] then (c, true) else qx c w
def qex (rec : K → K × Option N) (p : Int) : List (List UInt8) → K → List N → R3
  | [], c, acc => (c, .mk 28 p 0 [] acc, true)
  | w :: r, c, acc =>
    if (ifsK c w).2 = true then
      if (rec (ifsK c w).1).2.isSome = true then qex rec p r (rec (ifsK c w).1).1 (acc ++ [(rec (ifsK c w).1).2.getD N0])
      else ((rec (ifsK c w).1).1, .mk 28 p 0 [] acc, false)
    else ((ifsK c w).1, .mk 28 p 0 [] acc, false)
def ifsW : List (List UInt8) := [[], [116, 104, 101, 110], [101, 108, 115, 101]]
def qfb (rec : K → K × Option N) (c : K) : R3 :=
  if (qw c [92]).2 = true then
    if (qba (qw c [92]).1).kind = 1 then qcw rec [45, 62] (rest (qw c [92]).1 + 1) (qw c [92]).1
    else (qea (qw c [92]).1 5, posN (qba c).pos, false)
  else if (qw c [108, 101, 116]).2 = true then qjb rec (qba c).pos (qw c [108, 101, 116]).1
  else if (qw c [99, 97, 115, 101]).2 = true then qgk rec (qba c).pos (qw c [99, 97, 115, 101]).1
  else if (qw c [105, 102]).2 = true then qex rec (qba c).pos ifsW (qw c [105, 102]).1 []
  else qhf rec c
def qhd : Nat → K → K × Option N
  | 0, c => (c, none)
  | f + 1, c =>
    if (qp c).2 = true then (qdg (qfb (qhd f) (qp c).1).1, (toO (qfb (qhd f) (qp c).1)).2)
    else ((qp c).1, none)

theorem qm1 {c : K} (h : (qkb c).isSome = true) : (qba c).kind ≠ 0 := by
  unfold qkb at h
  split at h
  · omega
  · split at h
    · omega
    · split at h
      · omega
      · cases h
theorem qcg {c : K} {x : List UInt8} (h : (qw c x).2 = true) : rest (qw c x).1 < rest c := by
  unfold qw at h ⊢
  split at h
  · rename_i h1
    rw [if_pos h1]
    have := qbm (qdm h1)
    simp only; omega
  · cases h
theorem qe2 {c : K} {x : List UInt8} (h : (qx c x).2 = true) : rest (qx c x).1 < rest c := by
  unfold qx at h ⊢
  split at h
  · rename_i h1
    rw [if_pos h1]
    have := qbm (qdm h1)
    simp only; omega
  · cases h
theorem qof {c : K} (h : (qbe c 1).2 = true) : rest (qbe c 1).1 < rest c := by
  obtain ⟨h1, h2⟩ := qjv h
  rw [(qqs h).1]
  have := qbm (c := c) (by omega)
  simp only; omega
section
variable {rec : K → K × Option N} (hm : ∀ c, Mon c (rec c).1)
include hm
theorem qdk (c : K) : Mon c (qbl rec c).1 := by
  unfold qbl
  split
  · exact qcj c
  · split
    · split
      · have h1 := ((qbb c).trans (qcj _)).trans (hm _)
        split
        · split
          · exact (h1.trans (qt _ _)).trans (qb1 _)
          · exact h1.trans (qt _ _)
        · exact h1
      · exact qbb c
    · exact qeb c 5
theorem qje {c : K} (h : (qbl rec c).2.isSome = true) : rest (qbl rec c).1 < rest c := by
  unfold qbl at h ⊢
  split at h
  · rename_i hl
    rw [if_pos hl]
    have := qbm (qm1 hl)
    simp only; omega
  · rename_i hl
    rw [if_neg hl]
    split at h
    · rename_i hk
      rw [if_pos hk]
      split at h
      · rename_i he
        rw [if_pos he]
        have hp := qbm (c := (qp c).1) (by rw [qdo he]; exact qdm hk)
        have h0 := (qbb c).2.1
        have h1 := (hm (qbg (qp c).1)).2.1
        split at h
        · rename_i hr
          rw [if_pos hr]
          have h2 := (qt (rec (qbg (qp c).1)).1 [41]).2.1
          split at h
          · rename_i hw
            rw [if_pos hw]
            have h3 := (qb1 (qx (rec (qbg (qp c).1)).1 [41]).1).2.1
            simp only; omega
          · cases h
        · cases h
      · cases h
    · cases h
theorem qkt : ∀ (f : Nat) (c : K) (n : N), Mon c (qf6 rec f c n).1
  | 0, c, n => Mon.refl c
  | f + 1, c, n => by
    rw [qf6]
    split
    · split
      · exact (qdk hm c).trans (qkt f _ _)
      · exact qdk hm c
    · exact Mon.refl c
theorem qtt (c : K) : Mon c (qhf rec c).1 := by
  unfold qhf
  split
  · exact (qdk hm c).trans (qkt hm _ _ _)
  · exact qdk hm c
theorem qf9 (x : List UInt8) : ∀ (f : Nat) (c : K), Mon c (qcw rec x f c).1
  | 0, c => Mon.refl c
  | f + 1, c => by
    rw [qcw]
    split
    · exact (qcj c).trans (qf9 x f _)
    · split
      · exact (qt c x).trans (hm _)
      · exact qt c x
theorem qhk (c : K) : Mon c (qcp rec c).1 := by
  unfold qcp
  split
  · split
    · exact ((qca c 1).trans (q8 _ _)).trans (qhq _ _)
    · exact (qca c 1).trans (qf9 hm _ _ _)
  · exact qca c 1
theorem qi1 {c : K} (h : (qcp rec c).2.isSome = true) : rest (qcp rec c).1 < rest c := by
  unfold qcp at h ⊢
  split at h
  · rename_i h1
    rw [if_pos h1]
    have h2 := qof h1
    split
    · have h3 := ((q8 (qbe c 1).1 [58, 58]).trans (qhq (rest (qw (qbe c 1).1 [58, 58]).1 + 2) _)).2.1
      simp only; omega
    · have h3 := (qf9 hm [61] (rest (qbe c 1).1 + 1) (qbe c 1).1).2.1
      simp only; omega
  · cases h
omit hm in
theorem qi9 {rd : K → R3} (hd : ∀ c, Mon c (rd c).1) : ∀ (f : Nat) (c : K) (acc : List N), Mon c (qcy rd f c acc).1
  | 0, c, acc => Mon.refl c
  | f + 1, c, acc => by
    rw [qcy]
    split
    · split
      · exact ((hd c).trans (q8 _ _)).trans (qi9 hd f _ _)
      · exact ((hd c).trans (q8 _ _)).trans (qt _ _)
    · exact hd c
omit hm in
theorem qf3 {rd : K → R3} (hd : ∀ c, Mon c (rd c).1) (c : K) : Mon c (qbr rd c).1 := by
  unfold qbr
  split
  · exact (qt c _).trans (qi9 hd _ _ _)
  · exact qt c _
theorem qth (p : Int) (c : K) : Mon c (qjb rec p c).1 := by
  unfold qjb letB letC
  have h := qf3 (rd := fun c => ofO (qcp rec c)) (fun c => qhk hm c) c
  split
  · split
    · exact (h.trans (qt _ _)).trans (hm _)
    · exact h.trans (qt _ _)
  · exact h
theorem ql7 (c : K) : Mon c (qe4 rec c).1 := by
  unfold qe4 altB altC
  have h := qe7 (rest c + 2) c
  split
  · split
    · exact (h.trans (qt _ _)).trans (hm _)
    · exact h.trans (qt _ _)
  · exact h
theorem qrf {c : K} (h : (qe4 rec c).2.2 = true) : rest (qe4 rec c).1 < rest c := by
  unfold qe4 altB altC at h ⊢
  have h1 := (qe7 (rest c + 2) c).2.1
  split at h
  · rename_i h2
    rw [if_pos h2]
    split at h
    · rename_i h3
      rw [if_pos h3]
      have h4 := qe2 h3
      have h5 := (hm (qx (qcq (rest c + 2) c).1 [45, 62]).1).2.1
      simp only; omega
    · cases h
  · cases h
theorem qrl (p : Int) (c : K) : Mon c (qgk rec p c).1 := by
  unfold qgk q1x q0c
  have h := hm c
  split
  · split
    · exact (h.trans (qt _ _)).trans (qf3 (fun c => ql7 hm c) _)
    · exact h.trans (qt _ _)
  · exact h
omit hm in
theorem qj0 (c : K) (w : List UInt8) : Mon c (ifsK c w).1 := by
  unfold ifsK
  split
  · exact Mon.refl c
  · exact qt c w
theorem qmt (p : Int) : ∀ (l : List (List UInt8)) (c : K) (acc : List N), Mon c (qex rec p l c acc).1
  | [], c, acc => Mon.refl c
  | w :: r, c, acc => by
    rw [qex]
    split
    · split
      · exact ((qj0 c w).trans (hm _)).trans (qmt p r _ _)
      · exact (qj0 c w).trans (hm _)
    · exact qj0 c w
theorem qk7 (c : K) : Mon c (qfb rec c).1 := by
  unfold qfb
  split
  · split
    · exact (q8 c _).trans (qf9 hm _ _ _)
    · exact (q8 c _).trans (qeb _ 5)
  · split
    · exact (q8 c _).trans (qth hm _ _)
    · split
      · exact (q8 c _).trans (qrl hm _ _)
      · split
        · exact (q8 c _).trans (qmt hm _ _ _ _)
        · exact qtt hm c
end
theorem qh7 : ∀ (f : Nat) (c : K), Mon c (qhd f c).1
  | 0, c => Mon.refl c
  | f + 1, c => by
    rw [qhd]
    split
    · exact ((qbb c).trans (qk7 (qh7 f) _)).trans (qb1 _)
    · exact qbb c
set_option maxRecDepth 4000

def resB (r : N × Bool) : AV := .tup [enc r.1, .bool r.2]
attribute [go_sem] resB
theorem qiu (k : Nat) (r : N × Bool) : (resB r).bd k = true := by simp only [resB, AV.bd, AV.bds, qja, Bool.and_true]
theorem qhb {P : Program} {f : FuncId} {c c' : K} {L : List Ent} {args : List AV} {r : N × Bool} {Q : List Ent → VO → Prop} (h : qbz P f (curE c) (curE c') args (resB r)) (ha : AV.bds 1 args = true) (hq : Q (curE c' :: L) (.val (resB r))) : VApp P (curE c :: L) (.fn f [] []) args Q :=
  qbv h (q7 _ _) (q7 _ _) ha (qiu _ _) fun _ => hq
theorem q2n (c : K) : qbz Try.prog 93 (curE c) (curE c) [.ptr 0 0] (resP (qkb c)) := by
  refine qs c0bk 1 (by simp) (by simp) ?_
  repeat' (first | refine qi ?_ | refine qk ?_ | ((first | refine qm ?_ | refine qj ?_ | refine qh ?_ | refine qg ?_ | refine qbu ?_ | refine a_Is ?_ | ((first | refine qe ?_ ?_ | refine qc ?_ ?_) <;> intro hc <;> (try simp only [hc]) <;> (try simp only [qb, qa, decide_eq_true_eq, decide_eq_false_iff_not, Bool.and_eq_true] at hc)) | refine And.intro (by first | assumption | omega | (have := qf (by assumption); omega) | (unfold qo; omega)) ?_ | simp (disch := omega) only [qd] | simp (disch := omega) only [qn]) <;> (try simp only [go_sem, ↓reduceIte, Nat.reduceEqDiff, Nat.reduceAdd, Nat.reduceSub, Nat.reduceMul, Nat.reduceLT, Nat.reduceLeDiff, reduceCtorEq, Int.reduceToNat])))
  all_goals (unfold qkb qjk; simp_all [enc, encs, N0])
theorem qww {c : K} {L : List Ent} {Q : List Ent → VO → Prop} (hq : Q (curE c :: L) (.val (resP (qkb c)))) : VApp Try.prog (curE c :: L) (.fn 93 [] []) [.ptr 0 0] Q := qb7 (q2n c) rfl hq
section
variable {rec : K → K × Option N} {b : Nat} (hm : ∀ c, Mon c (rec c).1) (ih : ∀ c, c.good → rest c < b → qbz Try.prog 66 (curE c) (curE (rec c).1) [.ptr 0 0] (resP (rec c).2))
include hm ih
theorem qrq (c : K) (hg : c.good) (hr : rest c ≤ b) : qbz Try.prog 92 (curE c) (curE (qbl rec c).1) [.ptr 0 0] (resP (qbl rec c).2) := by
  have g1 : (qp c).1.good := (qbb c).1 hg
  have g2 : (qbg (qp c).1).good := (qcj _).1 g1
  have g3 : (rec (qbg (qp c).1)).1.good := (hm _).1 g2
  have g4 : (qx (rec (qbg (qp c).1)).1 [41]).1.good := (qt _ _).1 g3
  have hrr : isK c [40] = true → (qp c).2 = true → rest (qbg (qp c).1) < b := fun h1 h2 => by
    have := qbm (c := (qp c).1) (by rw [qdo h2]; exact qdm h1)
    have := (qbb c).2.1
    omega
  refine qs c0bl 1 (by simp) (by simp) ?_
  repeat' (first | refine qi ?_ | ((first | refine qm ?_ | refine qj ?_ | refine qh ?_ | refine qg ?_ | refine qww ?_ | refine a_Is ?_ | refine qmx ?_ | refine qfp ?_ | refine qgq hg.ok ?_ | refine qgq g1.ok ?_ | refine qb7 (ih _ g2 (hrr (by assumption) (by assumption))) rfl ?_ | refine qb0 g3.ok ?_ | refine qd3 g4.2.2 ?_ | ((first | refine qe ?_ ?_ | refine qc ?_ ?_) <;> intro hc <;> (try simp only [hc]) <;> (try simp only [qb, qa, decide_eq_true_eq, decide_eq_false_iff_not, Bool.and_eq_true] at hc)) | refine And.intro (by first | assumption | omega | (have := qf (by assumption); omega) | (unfold qo; omega)) ?_ | simp (disch := omega) only [qd] | simp (disch := omega) only [qn]) <;> (try simp only [go_sem, ↓reduceIte, Nat.reduceEqDiff, Nat.reduceAdd, Nat.reduceSub, Nat.reduceMul, Nat.reduceLT, Nat.reduceLeDiff, reduceCtorEq, Int.reduceToNat])))
  all_goals (unfold qbl; simp only [*, qdf, Int.reduceEq, if_true, if_false, reduceIte, Bool.false_eq_true, Option.getD_none, Option.getD_some, Option.isSome_none, Option.isSome_some, and_self, true_and, and_true]; try rfl)
omit hm ih
/-- A variable that holds a tree: its row may be a literal. -/
def qw6 (fl : Bool) (n : N) : Ent := .blk [.int .i64 n.kind, .int .i64 n.pos, .int .i64 n.num, .str n.text, if fl = true then .lit 5 (encs n.kids) else .sl 5 (encs n.kids)]
theorem q37 {P : Program} {fr : Option Nat} {k m : Nat} {a : IC} {Q : VE → AF → List Ent → Prop} {af : AF} {A B : Ent} {L : List Ent} {fl : Bool} {n : N} (h : VI P fr k m a Q af (A :: B :: .blk (enc n).cells :: L)) : VI P fr k m a Q af (A :: B :: qw6 fl n :: L) := by
  cases n
  cases fl with
  | false => exact h
  | true =>
    refine qw2 2 4 (.sl 5) (by rfl) ?_
    simp only [List.getD_cons_succ, List.getD_cons_zero, if_true, qop, List.set_cons_succ, List.set_cons_zero]
    exact h
include hm ih
def qxw (x : Bool × Nat × K × N × Bool) : AF × List Ent :=
  (⟨[(0, .ptr 0 0), (2, .ptr 1 0), (4, .ptr 2 0), (5, .bool x.2.2.2.2)], []⟩, [curE x.2.2.1, .blk [.int .i64 0, .int .i64 0, .int .i64 0, .str [], .nils], qw6 x.1 x.2.2.2.1])
theorem q07 (c : K) (hg : c.good) (hr : rest c ≤ b) : qbz Try.prog 85 (curE c) (curE (qhf rec c).1) [.ptr 0 0] (resB (qhf rec c).2) := by
  refine qs c0bm 1 (by simp) (by simp) ?_
  have g0 : (qbl rec c).1.good := (qdk hm c).1 hg
  have hr0 : rest (qbl rec c).1 ≤ b := by have := (qdk hm c).2.1; omega
  generalize htg : qhf rec c = tg
  repeat' (first | refine qi ?_ | refine qk ?_ | ((first | refine qm ?_ | refine qj ?_ | refine qr ?_ | refine qh ?_ | refine qg ?_ | refine qb7 (qrq hm ih _ hg hr) rfl ?_ | ((first | refine qe ?_ ?_ | refine qc ?_ ?_) <;> intro hc <;> (try simp only [hc]) <;> (try simp only [qb, qa, decide_eq_true_eq, decide_eq_false_iff_not, Bool.and_eq_true] at hc)) | refine And.intro (by first | assumption | omega | (have := qf (by assumption); omega) | (unfold qo; omega)) ?_ | simp (disch := omega) only [qd] | simp (disch := omega) only [qn]) <;> (try simp only [go_sem, ↓reduceIte, Nat.reduceEqDiff, Nat.reduceAdd, Nat.reduceSub, Nat.reduceMul, Nat.reduceLT, Nat.reduceLeDiff, reduceCtorEq, Int.reduceToNat])))
  refine qcx (S := Bool × Nat × K × N × Bool) (fun x => x.2.2.1.good ∧ rest x.2.2.1 ≤ b ∧ (x.2.2.2.2 = true → qf6 rec x.2.1 x.2.2.1 x.2.2.2.1 = tg ∧ rest x.2.2.1 < x.2.1) ∧ (x.2.2.2.2 = false → tg = (x.2.2.1, x.2.2.2.1, false)))
    qxw (fun x => if x.2.2.2.2 = true then rest x.2.2.1 + 1 else 0) ?_ ?_
  · refine qb5 (false, rest (qbl rec c).1 + 1, (qbl rec c).1, (qbl rec c).2.getD N0, (qbl rec c).2.isSome) [0, 1, 2] ⟨g0, hr0, fun h => ⟨?_, Nat.lt_succ_self _⟩, fun h => ?_⟩ rfl (by simp) ?_ ?_ ?_
    · simp only at h; rw [← htg, qhf, if_pos h]
    · simp only at h; rw [← htg, qhf, if_neg (by rw [h]; simp)]
    all_goals simp only [qxw, qw6]
    all_goals simp only [go_sem, ↓reduceIte, Nat.reduceEqDiff, Nat.reduceAdd, Nat.reduceSub, Nat.reduceMul, Nat.reduceLT, Nat.reduceLeDiff, reduceCtorEq, Int.reduceToNat]
  · rintro ⟨fl, fu, d, n, ok⟩ ⟨i1, i2, i3, i4⟩
    simp only at i1 i2 i3 i4
    unfold qxw
    refine q37 ?_
    cases ok with
    | false =>
      have i4 := i4 rfl
      subst i4
      repeat' (first | refine qi ?_ | refine qk ?_ | ((first | refine qm ?_ | refine qj ?_ | refine qr ?_ | refine qh ?_ | refine qg ?_ | ((first | refine qe ?_ ?_ | refine qc ?_ ?_) <;> intro hc <;> (try simp only [hc]) <;> (try simp only [qb, qa, decide_eq_true_eq, decide_eq_false_iff_not, Bool.and_eq_true] at hc)) | refine And.intro (by first | assumption | omega | (have := qf (by assumption); omega) | (unfold qo; omega)) ?_ | simp (disch := omega) only [qd] | simp (disch := omega) only [qn]) <;> (try simp only [go_sem, ↓reduceIte, Nat.reduceEqDiff, Nat.reduceAdd, Nat.reduceSub, Nat.reduceMul, Nat.reduceLT, Nat.reduceLeDiff, reduceCtorEq, Int.reduceToNat])))
    | true =>
      obtain ⟨i3, i5⟩ := i3 rfl
      clear i4
      obtain ⟨fu, rfl⟩ : ∃ k, fu = k + 1 := ⟨fu - 1, by omega⟩
      rw [qf6] at i3
      have j1 : (qbl rec d).1.good := (qdk hm d).1 i1
      have j2 : rest (qbl rec d).1 ≤ rest d := (qdk hm d).2.1
      have key : begE d = true → (((qbl rec d).2.isSome = true → qf6 rec fu (qbl rec d).1 (appN n ((qbl rec d).2.getD N0)) = tg ∧ rest (qbl rec d).1 < fu) ∧ ((qbl rec d).2.isSome = false → tg = ((qbl rec d).1, appN n ((qbl rec d).2.getD N0), false))) ∧
          (if (qbl rec d).2.isSome = true then rest (qbl rec d).1 + 1 else 0) < rest d + 1 := fun hb => by
        rw [if_pos hb] at i3
        refine ⟨⟨fun h => ?_, fun h => ?_⟩, ?_⟩
        · rw [if_pos h] at i3
          have := qje hm h
          exact ⟨i3, by omega⟩
        · rw [if_neg (by rw [h]; simp)] at i3
          exact i3.symm
        · split
          · rename_i h
            have := qje hm h
            omega
          · omega
      have e1 : (qkb d).isSome = true → begE d = true := fun h => by rw [begE, h]; rfl
      have e2 : isK d [40] = true → begE d = true := fun h => by rw [begE, h, Bool.or_true]
      repeat' (first | refine qi ?_ | refine qk ?_ | ((first | refine qm ?_ | refine qj ?_ | refine qr ?_ | refine qh ?_ | refine qg ?_ | refine qww ?_ | refine a_Is ?_ | refine qb7 (qrq hm ih _ i1 i2) rfl ?_ | ((first | refine qe ?_ ?_ | refine qc ?_ ?_) <;> intro hc <;> (try simp only [hc]) <;> (try simp only [qb, qa, decide_eq_true_eq, decide_eq_false_iff_not, Bool.and_eq_true] at hc)) | refine And.intro (by first | assumption | omega | (have := qf (by assumption); omega) | (unfold qo; omega)) ?_ | simp (disch := omega) only [qd] | simp (disch := omega) only [qn]) <;> (try simp only [go_sem, ↓reduceIte, Nat.reduceEqDiff, Nat.reduceAdd, Nat.reduceSub, Nat.reduceMul, Nat.reduceLT, Nat.reduceLeDiff, reduceCtorEq, Int.reduceToNat])))
      · have hb : ¬ begE d = true := by rw [begE]; simp_all
        rw [if_neg hb] at i3
        subst i3
        exact ⟨rfl, rfl⟩
      · obtain ⟨k1, k2⟩ := key (e2 (by assumption))
        refine qb5 (true, fu, (qbl rec d).1, appN n ((qbl rec d).2.getD N0), (qbl rec d).2.isSome) [0, 1, 2] ⟨⟨j1, by simp only; omega, k1⟩, by simpa using k2⟩ rfl (by simp) ?_ ?_ ?_
        all_goals simp only [qxw, qw6, appN, encs, N.kind, N.pos, N.num, N.text, N.kids]
        all_goals simp only [go_sem, ↓reduceIte, Nat.reduceEqDiff, Nat.reduceAdd, Nat.reduceSub, Nat.reduceMul, Nat.reduceLT, Nat.reduceLeDiff, reduceCtorEq, Int.reduceToNat]
      · obtain ⟨k1, k2⟩ := key (e1 (by assumption))
        refine qb5 (true, fu, (qbl rec d).1, appN n ((qbl rec d).2.getD N0), (qbl rec d).2.isSome) [0, 1, 2] ⟨⟨j1, by simp only; omega, k1⟩, by simpa using k2⟩ rfl (by simp) ?_ ?_ ?_
        all_goals simp only [qxw, qw6, appN, encs, N.kind, N.pos, N.num, N.text, N.kids]
        all_goals simp only [go_sem, ↓reduceIte, Nat.reduceEqDiff, Nat.reduceAdd, Nat.reduceSub, Nat.reduceMul, Nat.reduceLT, Nat.reduceLeDiff, reduceCtorEq, Int.reduceToNat]
end
set_option maxRecDepth 4000

theorem qqr (t : T) (n : N) : AV.agg [.int .i64 25, .int .i64 t.pos, .int .i64 0, .str t.text, .sl 5 [enc n]] = enc (lamN t n) := by simp only [lamN, enc, encs]
theorem qg8 (k : Int) (t : T) (n : N) : AV.agg [.int .i64 k, .int .i64 t.pos, .int .i64 0, .str t.text, .sl 5 [enc n]] = enc (quq k t n) := by simp only [quq, enc, encs]
section
variable {rec : K → K × Option N} {b : Nat} (ih : ∀ c, c.good → rest c < b → qbz Try.prog 66 (curE c) (curE (rec c).1) [.ptr 0 0] (resP (rec c).2))
include ih
theorem qn3 (x : List UInt8) : ∀ (f : Nat) (c : K), c.good → rest c ≤ b → rest c < f → qbz Try.prog 46 (curE c) (curE (qcw rec x f c).1) [.ptr 0 0, .str x] (resB (qcw rec x f c).2)
  | 0, c => fun _ _ h => absurd h (by omega)
  | f + 1, c => fun hg hb hf => by
    have g1 : (qbg c).good := (qcj c).1 hg
    have g2 : (qx c x).1.good := (qt c x).1 hg
    refine qs c0bi 1 (by simp) (by simp) ?_
    by_cases hk : (qba c).kind = 1
    · have hrn := qbm (c := c) (by omega)
      have hl := qn3 x f (qbg c) g1 (by omega) (by omega)
      have hpa : qcw rec x (f + 1) c = ((qcw rec x f (qbg c)).1, lamN (qba c) (qcw rec x f (qbg c)).2.1, (qcw rec x f (qbg c)).2.2) := by rw [qcw, if_pos hk]
      rw [hpa]
      clear hpa
      generalize qcw rec x f (qbg c) = r at *
      repeat' (first | refine qi ?_ | ((first | refine qm ?_ | refine qj ?_ | refine qh ?_ | refine qg ?_) <;> (try simp (disch := first | omega | (simp only [List.length_set, List.length_append, List.length_cons, List.length_nil]; done) | (simp only [List.length_set, List.length_append, List.length_cons, List.length_nil]; omega)) only [hk, ne_eq, not_true_eq_false, decide_false, go_sem, ↓reduceIte, Nat.reduceEqDiff, Nat.reduceAdd, Nat.reduceSub, Nat.reduceMul, Nat.reduceLT, Nat.reduceLeDiff, reduceCtorEq, Int.reduceToNat])) | ((first | ((first | refine qe ?_ ?_ | refine qc ?_ ?_) <;> intro hc <;> (try simp only [hc]) <;> (try simp only [qb, qa, decide_eq_true_eq, decide_eq_false_iff_not, Bool.and_eq_true] at hc)) | refine And.intro (by first | assumption | omega | (have := qf (by assumption); omega) | (unfold qo; omega)) ?_ | simp (disch := omega) only [qd] | simp (disch := omega) only [qn] | refine qbu ?_ | refine qgq hg.ok ?_ | refine qhb hl rfl ?_) <;> (try simp only [go_sem, ↓reduceIte, Nat.reduceEqDiff, Nat.reduceAdd, Nat.reduceSub, Nat.reduceMul, Nat.reduceLT, Nat.reduceLeDiff, reduceCtorEq, Int.reduceToNat])))
      all_goals first | (rw [qqr]; done) | (rw [qqr]; rfl) | (rw [qqr]; exact ⟨rfl, rfl⟩)
    · by_cases hw : (qx c x).2 = true
      · have hlt := qe2 hw
        have hpa : qcw rec x (f + 1) c = ofO (rec (qx c x).1) := by rw [qcw, if_neg hk, if_pos hw]
        rw [hpa, ofO]
        repeat' (first | refine qi ?_ | ((first | refine qm ?_ | refine qj ?_ | refine qh ?_ | refine qg ?_) <;> (try simp (disch := first | omega | (simp only [List.length_set, List.length_append, List.length_cons, List.length_nil]; done) | (simp only [List.length_set, List.length_append, List.length_cons, List.length_nil]; omega)) only [hk, hw, ne_eq, not_false_eq_true, decide_true, go_sem, ↓reduceIte, Nat.reduceEqDiff, Nat.reduceAdd, Nat.reduceSub, Nat.reduceMul, Nat.reduceLT, Nat.reduceLeDiff, reduceCtorEq, Int.reduceToNat])) | ((first | ((first | refine qe ?_ ?_ | refine qc ?_ ?_) <;> intro hc <;> (try simp only [hc]) <;> (try simp only [qb, qa, decide_eq_true_eq, decide_eq_false_iff_not, Bool.and_eq_true] at hc)) | refine And.intro (by first | assumption | omega | (have := qf (by assumption); omega) | (unfold qo; omega)) ?_ | simp (disch := omega) only [qd] | simp (disch := omega) only [qn] | refine qbu ?_ | refine qb0 hg.ok ?_ | refine qb7 (ih _ g2 (by omega)) rfl ?_) <;> (try simp only [go_sem, ↓reduceIte, Nat.reduceEqDiff, Nat.reduceAdd, Nat.reduceSub, Nat.reduceMul, Nat.reduceLT, Nat.reduceLeDiff, reduceCtorEq, Int.reduceToNat])))
      · have hpa : qcw rec x (f + 1) c = ((qx c x).1, N0, false) := by rw [qcw, if_neg hk, if_neg hw]
        rw [hpa]
        repeat' (first | refine qi ?_ | ((first | refine qm ?_ | refine qj ?_ | refine qh ?_ | refine qg ?_) <;> (try simp (disch := first | omega | (simp only [List.length_set, List.length_append, List.length_cons, List.length_nil]; done) | (simp only [List.length_set, List.length_append, List.length_cons, List.length_nil]; omega)) only [hk, hw, ne_eq, not_false_eq_true, decide_true, go_sem, ↓reduceIte, Nat.reduceEqDiff, Nat.reduceAdd, Nat.reduceSub, Nat.reduceMul, Nat.reduceLT, Nat.reduceLeDiff, reduceCtorEq, Int.reduceToNat])) | ((first | ((first | refine qe ?_ ?_ | refine qc ?_ ?_) <;> intro hc <;> (try simp only [hc]) <;> (try simp only [qb, qa, decide_eq_true_eq, decide_eq_false_iff_not, Bool.and_eq_true] at hc)) | refine And.intro (by first | assumption | omega | (have := qf (by assumption); omega) | (unfold qo; omega)) ?_ | simp (disch := omega) only [qd] | simp (disch := omega) only [qn] | refine qbu ?_ | refine qb0 hg.ok ?_) <;> (try simp only [go_sem, ↓reduceIte, Nat.reduceEqDiff, Nat.reduceAdd, Nat.reduceSub, Nat.reduceMul, Nat.reduceLT, Nat.reduceLeDiff, reduceCtorEq, Int.reduceToNat])))
        all_goals first | (rw [qdf]; done) | (rw [qdf]; rfl) | (rw [qdf]; exact ⟨rfl, rfl⟩)
theorem qmk (c : K) (hg : c.good) (hr : rest c ≤ b) : qbz Try.prog 29 (curE c) (curE (qcp rec c).1) [.ptr 0 0] (resP (qcp rec c).2) := by
  have g1 : (qbe c 1).1.good := (qca c 1).1 hg
  have hr1 : rest (qbe c 1).1 ≤ b := by have := (qca c 1).2.1; omega
  have g2 : (qw (qbe c 1).1 [58, 58]).1.good := (q8 _ _).1 g1
  have hl := qn3 ih [61] (rest (qbe c 1).1 + 1) (qbe c 1).1 g1 hr1 (Nat.lt_succ_self _)
  have hq := qto (rest (qw (qbe c 1).1 [58, 58]).1 + 2) (qw (qbe c 1).1 [58, 58]).1 g2 (by omega)
  have ht0 : (qw (qbe c 1).1 [58, 58]).2 = false → (qw (qbe c 1).1 [58, 58]).1 = (qbe c 1).1 := fun h => qc1 h
  refine qs c0bj 1 (by simp) (by simp) ?_
  unfold qcp
  generalize qcw rec [61] (rest (qbe c 1).1 + 1) (qbe c 1).1 = r at *
  generalize qe3 (rest (qw (qbe c 1).1 [58, 58]).1 + 2) (qw (qbe c 1).1 [58, 58]).1 = q at *
  by_cases hk : (qbe c 1).2 = true
  · rw [if_pos hk]
    by_cases ht : (qw (qbe c 1).1 [58, 58]).2 = true
    · rw [if_pos ht]
      cases ho : q.2 with
      | none =>
        rw [ho] at hq
        repeat' (first | refine qi ?_ | ((first | refine qm ?_ | refine qj ?_ | refine qh ?_ | refine qg ?_) <;> (try simp (disch := first | omega | (simp only [List.length_set, List.length_append, List.length_cons, List.length_nil]; done) | (simp only [List.length_set, List.length_append, List.length_cons, List.length_nil]; omega)) only [hk, ht, Option.isSome_none, Option.getD_none, go_sem, ↓reduceIte, Nat.reduceEqDiff, Nat.reduceAdd, Nat.reduceSub, Nat.reduceMul, Nat.reduceLT, Nat.reduceLeDiff, reduceCtorEq, Int.reduceToNat])) | ((first | ((first | refine qe ?_ ?_ | refine qc ?_ ?_) <;> intro hc <;> (try simp only [hc]) <;> (try simp only [qb, qa, decide_eq_true_eq, decide_eq_false_iff_not, Bool.and_eq_true] at hc)) | refine And.intro (by first | assumption | omega | (have := qf (by assumption); omega) | (unfold qo; omega)) ?_ | simp (disch := omega) only [qd] | simp (disch := omega) only [qn] | refine qcr hg.ok ?_ | refine qdh g1.ok ?_ | refine qb7 hq rfl ?_) <;> (try simp only [go_sem, ↓reduceIte, Nat.reduceEqDiff, Nat.reduceAdd, Nat.reduceSub, Nat.reduceMul, Nat.reduceLT, Nat.reduceLeDiff, reduceCtorEq, Int.reduceToNat])))
        all_goals first | (rw [qdf]; done) | (rw [qdf]; rfl) | (rw [qdf]; exact ⟨rfl, rfl⟩)
      | some n =>
        rw [ho] at hq
        repeat' (first | refine qi ?_ | ((first | refine qm ?_ | refine qj ?_ | refine qh ?_ | refine qg ?_) <;> (try simp (disch := first | omega | (simp only [List.length_set, List.length_append, List.length_cons, List.length_nil]; done) | (simp only [List.length_set, List.length_append, List.length_cons, List.length_nil]; omega)) only [hk, ht, Option.isSome_some, Option.getD_some, go_sem, ↓reduceIte, Nat.reduceEqDiff, Nat.reduceAdd, Nat.reduceSub, Nat.reduceMul, Nat.reduceLT, Nat.reduceLeDiff, reduceCtorEq, Int.reduceToNat])) | ((first | ((first | refine qe ?_ ?_ | refine qc ?_ ?_) <;> intro hc <;> (try simp only [hc]) <;> (try simp only [qb, qa, decide_eq_true_eq, decide_eq_false_iff_not, Bool.and_eq_true] at hc)) | refine And.intro (by first | assumption | omega | (have := qf (by assumption); omega) | (unfold qo; omega)) ?_ | simp (disch := omega) only [qd] | simp (disch := omega) only [qn] | refine qcr hg.ok ?_ | refine qdh g1.ok ?_ | refine qb7 hq rfl ?_) <;> (try simp only [go_sem, ↓reduceIte, Nat.reduceEqDiff, Nat.reduceAdd, Nat.reduceSub, Nat.reduceMul, Nat.reduceLT, Nat.reduceLeDiff, reduceCtorEq, Int.reduceToNat])))
        all_goals first | (rw [qg8]; done) | (rw [qg8]; rfl) | (rw [qg8]; exact ⟨rfl, rfl⟩)
    · rw [if_neg ht]
      have ht : (qw (qbe c 1).1 [58, 58]).2 = false := by simpa using ht
      have ht0 := ht0 ht
      obtain ⟨d, n, ok⟩ := r
      simp only [toO] at hl ⊢
      rw [← ht0] at hl
      cases ok with
      | false =>
        repeat' (first | refine qi ?_ | ((first | refine qm ?_ | refine qj ?_ | refine qh ?_ | refine qg ?_) <;> (try simp (disch := first | omega | (simp only [List.length_set, List.length_append, List.length_cons, List.length_nil]; done) | (simp only [List.length_set, List.length_append, List.length_cons, List.length_nil]; omega)) only [hk, ht, go_sem, ↓reduceIte, Nat.reduceEqDiff, Nat.reduceAdd, Nat.reduceSub, Nat.reduceMul, Nat.reduceLT, Nat.reduceLeDiff, reduceCtorEq, Int.reduceToNat])) | ((first | ((first | refine qe ?_ ?_ | refine qc ?_ ?_) <;> intro hc <;> (try simp only [hc]) <;> (try simp only [qb, qa, decide_eq_true_eq, decide_eq_false_iff_not, Bool.and_eq_true] at hc)) | refine And.intro (by first | assumption | omega | (have := qf (by assumption); omega) | (unfold qo; omega)) ?_ | simp (disch := omega) only [qd] | simp (disch := omega) only [qn] | refine qcr hg.ok ?_ | refine qdh g1.ok ?_ | refine qhb hl rfl ?_) <;> (try simp only [go_sem, ↓reduceIte, Nat.reduceEqDiff, Nat.reduceAdd, Nat.reduceSub, Nat.reduceMul, Nat.reduceLT, Nat.reduceLeDiff, reduceCtorEq, Int.reduceToNat])))
        all_goals first | (rw [qdf]; done) | (rw [qdf]; rfl) | (rw [qdf]; exact ⟨rfl, rfl⟩)
      | true =>
        repeat' (first | refine qi ?_ | ((first | refine qm ?_ | refine qj ?_ | refine qh ?_ | refine qg ?_) <;> (try simp (disch := first | omega | (simp only [List.length_set, List.length_append, List.length_cons, List.length_nil]; done) | (simp only [List.length_set, List.length_append, List.length_cons, List.length_nil]; omega)) only [hk, ht, go_sem, ↓reduceIte, Nat.reduceEqDiff, Nat.reduceAdd, Nat.reduceSub, Nat.reduceMul, Nat.reduceLT, Nat.reduceLeDiff, reduceCtorEq, Int.reduceToNat])) | ((first | ((first | refine qe ?_ ?_ | refine qc ?_ ?_) <;> intro hc <;> (try simp only [hc]) <;> (try simp only [qb, qa, decide_eq_true_eq, decide_eq_false_iff_not, Bool.and_eq_true] at hc)) | refine And.intro (by first | assumption | omega | (have := qf (by assumption); omega) | (unfold qo; omega)) ?_ | simp (disch := omega) only [qd] | simp (disch := omega) only [qn] | refine qcr hg.ok ?_ | refine qdh g1.ok ?_ | refine qhb hl rfl ?_) <;> (try simp only [go_sem, ↓reduceIte, Nat.reduceEqDiff, Nat.reduceAdd, Nat.reduceSub, Nat.reduceMul, Nat.reduceLT, Nat.reduceLeDiff, reduceCtorEq, Int.reduceToNat])))
        all_goals first | (rw [qg8]; done) | (rw [qg8]; rfl) | (rw [qg8]; exact ⟨rfl, rfl⟩)
  · rw [if_neg hk]
    repeat' (first | refine qi ?_ | ((first | refine qm ?_ | refine qj ?_ | refine qh ?_ | refine qg ?_) <;> (try simp (disch := first | omega | (simp only [List.length_set, List.length_append, List.length_cons, List.length_nil]; done) | (simp only [List.length_set, List.length_append, List.length_cons, List.length_nil]; omega)) only [hk, go_sem, ↓reduceIte, Nat.reduceEqDiff, Nat.reduceAdd, Nat.reduceSub, Nat.reduceMul, Nat.reduceLT, Nat.reduceLeDiff, reduceCtorEq, Int.reduceToNat])) | ((first | ((first | refine qe ?_ ?_ | refine qc ?_ ?_) <;> intro hc <;> (try simp only [hc]) <;> (try simp only [qb, qa, decide_eq_true_eq, decide_eq_false_iff_not, Bool.and_eq_true] at hc)) | refine And.intro (by first | assumption | omega | (have := qf (by assumption); omega) | (unfold qo; omega)) ?_ | simp (disch := omega) only [qd] | simp (disch := omega) only [qn] | refine qcr hg.ok ?_) <;> (try simp only [go_sem, ↓reduceIte, Nat.reduceEqDiff, Nat.reduceAdd, Nat.reduceSub, Nat.reduceMul, Nat.reduceLT, Nat.reduceLeDiff, reduceCtorEq, Int.reduceToNat])))
    all_goals first | (rw [qdf]; done) | (rw [qdf]; rfl) | (rw [qdf]; exact ⟨rfl, rfl⟩)
end
set_option maxRecDepth 4000

/-- A function over the variable that holds the cursor. -/
def VClo (g : FuncId) (c c' : K) (r : N × Bool) : Prop := VCalls Try.prog g [curE c, .blk [.ptr 0 0]] [.ptr 1 0] fun H' o => H' = [curE c', .blk [.ptr 0 0]] ∧ o = .val (resB r)
theorem qg1 (c : K) : [curE c, .blk [.ptr 0 0]].all (Ent.bd 2) = true := by
  simp only [List.all_cons, List.all_nil, q7, Bool.true_and, Bool.and_true]; rfl
theorem qnf {g : FuncId} {c c' : K} {r : N × Bool} {L : List Ent} {Q : List Ent → VO → Prop} (h : VClo g c c' r) (hq : Q (curE c' :: .blk [.ptr 0 0] :: L) (.val (resB r))) : VApp Try.prog (curE c :: .blk [.ptr 0 0] :: L) (.fn g [] [.ptr 1 0]) [] Q :=
  qby (first := []) (caps := [.ptr 1 0]) (by
    simp only [List.nil_append]
    refine qcs (H0 := [curE c, .blk [.ptr 0 0]]) (L := L) h (qg1 c) rfl ?_
    rintro H1 o ⟨rfl, rfl⟩
    exact ⟨rfl, qg1 c', qiu _ _, hq⟩)
def qj7 (rd : K → R3) (g : FuncId) (c : K) : Prop := VCalls Try.prog 88 [curE c, .blk [.ptr 0 0]] [.ptr 0 0, .fn g [] [.ptr 1 0]] fun H' o =>
  H' = curE (qbr rd c).1 :: .blk [.ptr 0 0] :: accE 5 (encs (qbr rd c).2.1) ∧ o = .val (.tup [accV 2 (encs (qbr rd c).2.1), .bool (qbr rd c).2.2])
def qps (g : FuncId) (x : Nat × K × List N) : AF × List Ent :=
  (⟨[(0, .ptr 0 0), (1, .fn g [] [.ptr 1 0]), (6, accV 2 (encs x.2.2))], []⟩, curE x.2.1 :: .blk [.ptr 0 0] :: accE 5 (encs x.2.2))
theorem qs8 {rd : K → R3} {g : FuncId} {b : Nat} (hd : ∀ c, Mon c (rd c).1) (hl : ∀ c, (rd c).2.2 = true → rest (rd c).1 < rest c) (ih : ∀ c, c.good → rest c ≤ b → VClo g c (rd c).1 (rd c).2) (c : K) (hg : c.good) (hr : rest c ≤ b) : qj7 rd g c := by
  unfold qj7
  obtain ⟨kk, hk1, hk2, hk0⟩ : ∃ k : Nat, ((qbr rd c).2.1 = [] → k = 2) ∧ ((qbr rd c).2.1 ≠ [] → k = 3) ∧ 2 ≤ k := by
    by_cases h : (qbr rd c).2.1 = []
    · exact ⟨2, fun _ => rfl, fun g => absurd h g, by omega⟩
    · exact ⟨3, fun g => absurd g h, fun _ => rfl, by omega⟩
  refine qc7 c0bh kk (by simpa using hk0) (by simp) ?_
  have g1 : (qx c [123]).1.good := (qt c _).1 hg
  have hr1 : rest (qx c [123]).1 ≤ b := by have := (qt c [123]).2.1; omega
  by_cases hw : (qx c [123]).2 = true
  · have hpa : qbr rd c = qcy rd (rest (qx c [123]).1 + 1) (qx c [123]).1 [] := by rw [qbr, if_pos hw]
    rw [hpa] at hk1 hk2 ⊢
    clear hpa
    generalize htg : qcy rd (rest (qx c [123]).1 + 1) (qx c [123]).1 [] = tg at hk1 hk2 ⊢
    repeat' (first | refine qi ?_ | refine qk ?_ | ((first | refine qm ?_ | refine qj ?_ | refine qh ?_ | refine qg ?_) <;> (try simp (disch := first | omega | (simp only [List.length_set, List.length_append, List.length_cons, List.length_nil]; done) | (simp only [List.length_set, List.length_append, List.length_cons, List.length_nil]; omega)) only [hw, go_sem, ↓reduceIte, Nat.reduceEqDiff, Nat.reduceAdd, Nat.reduceSub, Nat.reduceMul, Nat.reduceLT, Nat.reduceLeDiff, reduceCtorEq, Int.reduceToNat])) | ((first | ((first | refine qe ?_ ?_ | refine qc ?_ ?_) <;> intro hc <;> (try simp only [hc]) <;> (try simp only [qb, qa, decide_eq_true_eq, decide_eq_false_iff_not, Bool.and_eq_true] at hc)) | refine And.intro (by first | assumption | omega | (have := qf (by assumption); omega) | (unfold qo; omega)) ?_ | simp (disch := omega) only [qd] | simp (disch := omega) only [qn] | refine qb0 hg.ok ?_) <;> (try simp only [go_sem, ↓reduceIte, Nat.reduceEqDiff, Nat.reduceAdd, Nat.reduceSub, Nat.reduceMul, Nat.reduceLT, Nat.reduceLeDiff, reduceCtorEq, Int.reduceToNat])))
    refine qcx (S := Nat × K × List N) (fun x => x.2.1.good ∧ rest x.2.1 ≤ b ∧ qcy rd x.1 x.2.1 x.2.2 = tg ∧ rest x.2.1 < x.1 ∧ x.2.2.length + rest x.2.1 ≤ 1048577)
      (qps g) (fun x => rest x.2.1) ?_ ?_
    · refine qb5 (rest (qx c [123]).1 + 1, (qx c [123]).1, []) [0, 1] ⟨g1, hr1, htg, Nat.lt_succ_self _, ?_⟩ rfl (by simp) ?_ ?_ ?_
      · have h9 := g1.rest
        unfold rest
        simp only [List.length_nil]
        omega
      all_goals simp only [qps, encs, qbh, qbj]
      all_goals simp only [go_sem, ↓reduceIte, Nat.reduceEqDiff, Nat.reduceAdd, Nat.reduceSub, Nat.reduceMul, Nat.reduceLT, Nat.reduceLeDiff, reduceCtorEq, Int.reduceToNat]
    · rintro ⟨fu, d, acc⟩ ⟨i1, i2, i3, i4, i5⟩
      simp only at i1 i2 i3 i4 i5
      obtain ⟨fu, rfl⟩ : ∃ k, fu = k + 1 := ⟨fu - 1, by omega⟩
      rw [qcy] at i3
      have hcap : qo (acc.length + 1) 64 := capN (by omega)
      have hclo := ih d i1 i2
      have hlt := hl d
      have j1 : (rd d).1.good := (hd d).1 i1
      have j2 := (hd d).2.1
      generalize rd d = r at *
      obtain ⟨d', n, ok⟩ := r
      simp only at j1 j2 hlt i3 hclo
      unfold qps qxl
      generalize h9 : qvl = R9
      cases ok with
      | false =>
        rw [if_neg (by simp)] at i3
        subst i3
        obtain rfl := hk1 rfl
        by_cases h0 : acc = []
        · subst h0
          simp only [encs, qbh, qbj]
          repeat' (first | refine qi ?_ | refine qk ?_ | ((first | refine qm ?_ | refine qj ?_ | refine qh ?_ | refine qg ?_ | refine qnf hclo ?_ | ((first | refine qe ?_ ?_ | refine qc ?_ ?_) <;> intro hc <;> (try simp only [hc]) <;> (try simp only [qb, qa, decide_eq_true_eq, decide_eq_false_iff_not, Bool.and_eq_true] at hc)) | refine And.intro (by first | assumption | omega | (have := qf (by assumption); omega) | (unfold qo; omega)) ?_ | simp (disch := omega) only [qd] | simp (disch := omega) only [qn]) <;> (try simp only [go_sem, ↓reduceIte, Nat.reduceEqDiff, Nat.reduceAdd, Nat.reduceSub, Nat.reduceMul, Nat.reduceLT, Nat.reduceLeDiff, reduceCtorEq, Int.reduceToNat])))
          all_goals first | exact ⟨rfl, rfl⟩
        · have hne := qbc h0
          simp only [qbo hne, qbp hne, qbd]
          repeat' (first | refine qi ?_ | refine qk ?_ | ((first | refine qm ?_ | refine qj ?_ | refine qh ?_ | refine qg ?_ | refine qnf hclo ?_ | ((first | refine qe ?_ ?_ | refine qc ?_ ?_) <;> intro hc <;> (try simp only [hc]) <;> (try simp only [qb, qa, decide_eq_true_eq, decide_eq_false_iff_not, Bool.and_eq_true] at hc)) | refine And.intro (by first | assumption | omega | (have := qf (by assumption); omega) | (unfold qo; omega)) ?_ | simp (disch := omega) only [qd] | simp (disch := omega) only [qn]) <;> (try simp only [go_sem, ↓reduceIte, Nat.reduceEqDiff, Nat.reduceAdd, Nat.reduceSub, Nat.reduceMul, Nat.reduceLT, Nat.reduceLeDiff, reduceCtorEq, Int.reduceToNat])))
          all_goals first | exact ⟨rfl, rfl⟩
      | true =>
        have hlt := hlt rfl
        rw [if_pos rfl] at i3
        by_cases h0 : acc = []
        · subst h0
          simp only [encs, qbh, qbj]
          repeat' (first | refine qi ?_ | refine qk ?_ | ((first | refine qm ?_ | refine qj ?_ | refine qh ?_ | refine qg ?_ | refine qnf hclo ?_ | ((first | refine qe ?_ ?_ | refine qc ?_ ?_) <;> intro hc <;> (try simp only [hc]) <;> (try simp only [qb, qa, decide_eq_true_eq, decide_eq_false_iff_not, Bool.and_eq_true] at hc)) | refine And.intro (by first | assumption | omega | (have := qf (by assumption); omega) | (unfold qo; omega)) ?_ | simp (disch := omega) only [qd] | simp (disch := omega) only [qn]) <;> (try simp only [go_sem, ↓reduceIte, Nat.reduceEqDiff, Nat.reduceAdd, Nat.reduceSub, Nat.reduceMul, Nat.reduceLT, Nat.reduceLeDiff, reduceCtorEq, Int.reduceToNat])))
          refine q6c (af' := ⟨[(0, .ptr 0 0), (1, .fn g [] [.ptr 1 0]), (6, .row 2 1)], []⟩) (H' := [curE d', .blk [.ptr 0 0], .app 5 (encs ([] ++ [n]))]) ?_ (q4v [0, 1, 3] rfl (by simp) ?_ ?_ ?_)
          rotate_left
          all_goals (try simp only [← qq, List.nil_append, encs, List.length_nil])
          all_goals (try simp only [go_sem, ↓reduceIte, Nat.reduceEqDiff, Nat.reduceAdd, Nat.reduceSub, Nat.reduceMul, Nat.reduceLT, Nat.reduceLeDiff, reduceCtorEq, Int.reduceToNat])
          all_goals (try (rw [qq, q6, qbn]; exact ⟨rfl, rfl⟩))
          subst h9
          have hta : (qw d' [59]).1.good := (q8 _ _).1 j1
          have htr := (q8 d' [59]).2.1
          have hne3 : ¬ [] ++ [n] = [] := by simp
          have hlen : ([] ++ [n]).length = 1 := by simp
          repeat' (first | refine qi ?_ | refine qk ?_ | ((first | refine qm ?_ | refine qj ?_ | refine qh ?_ | refine qg ?_ | refine qdh j1.ok ?_ | refine a_Is ?_ | refine qb0 hta.ok ?_ | ((first | refine qe ?_ ?_ | refine qc ?_ ?_) <;> intro hc <;> (try simp only [hc]) <;> (try simp only [qb, qa, decide_eq_true_eq, decide_eq_false_iff_not, Bool.and_eq_true] at hc)) | refine And.intro (by first | assumption | omega | (have := qf (by assumption); omega) | (unfold qo; omega)) ?_ | simp (disch := omega) only [qd] | simp (disch := omega) only [qn]) <;> (try simp only [go_sem, ↓reduceIte, Nat.reduceEqDiff, Nat.reduceAdd, Nat.reduceSub, Nat.reduceMul, Nat.reduceLT, Nat.reduceLeDiff, reduceCtorEq, Int.reduceToNat])))
          · have ht : (qw d' [59]).2 = false := by assumption
            rw [ht, Bool.false_and, if_neg (by simp)] at i3
            subst i3
            obtain rfl := hk2 (by simp)
            simp only [qbp (qbc hne3), qbo (qbc hne3), qbd, hlen, ← qq]
            simp only [go_sem, ↓reduceIte, Nat.reduceEqDiff, Nat.reduceAdd, Nat.reduceSub, Nat.reduceMul, Nat.reduceLT, Nat.reduceLeDiff, reduceCtorEq, Int.reduceToNat]
            all_goals first | (rw [qq]; exact q6 _ _) | exact ⟨rfl, rfl⟩ | rfl | (rw [qq, q6, qbn]; exact ⟨rfl, rfl⟩)
          · have ht : (qw d' [59]).2 = true := by assumption
            have hi : isK (qw d' [59]).1 [125] = true := by assumption
            rw [ht, hi, Bool.true_and, Bool.not_true, if_neg (by simp)] at i3
            subst i3
            obtain rfl := hk2 (by simp)
            simp only [qbp (qbc hne3), qbo (qbc hne3), qbd, hlen, ← qq]
            simp only [go_sem, ↓reduceIte, Nat.reduceEqDiff, Nat.reduceAdd, Nat.reduceSub, Nat.reduceMul, Nat.reduceLT, Nat.reduceLeDiff, reduceCtorEq, Int.reduceToNat]
            all_goals first | (rw [qq]; exact q6 _ _) | exact ⟨rfl, rfl⟩ | rfl | (rw [qq, q6, qbn]; exact ⟨rfl, rfl⟩)
          · have ht : (qw d' [59]).2 = true := by assumption
            have hi : isK (qw d' [59]).1 [125] = false := by assumption
            rw [ht, hi, Bool.true_and, Bool.not_false, if_pos rfl] at i3
            have htl := qcg ht
            refine qb5 (fu, (qw d' [59]).1, [] ++ [n]) [0, 1, 2] ⟨⟨hta, by simp only; omega, i3, by simp only; omega, by simp only [hlen]; omega⟩, by simp only; omega⟩ rfl (by simp) ?_ ?_ ?_
            all_goals simp only [qps, qbp (qbc hne3), qbo (qbc hne3), qbd, hlen, ← qq]
            all_goals simp only [go_sem, ↓reduceIte, Nat.reduceEqDiff, Nat.reduceAdd, Nat.reduceSub, Nat.reduceMul, Nat.reduceLT, Nat.reduceLeDiff, reduceCtorEq, Int.reduceToNat]
            all_goals first | (rw [qq]; exact q6 _ _) | exact ⟨rfl, rfl⟩ | rfl | (rw [qq, q6, qbn]; exact ⟨rfl, rfl⟩)
        · have hne := qbc h0
          simp only [qbo hne, qbp hne, qbd]
          repeat' (first | refine qi ?_ | refine qk ?_ | ((first | refine qm ?_ | refine qj ?_ | refine qh ?_ | refine qg ?_ | refine qnf hclo ?_ | ((first | refine qe ?_ ?_ | refine qc ?_ ?_) <;> intro hc <;> (try simp only [hc]) <;> (try simp only [qb, qa, decide_eq_true_eq, decide_eq_false_iff_not, Bool.and_eq_true] at hc)) | refine And.intro (by first | assumption | omega | (have := qf (by assumption); omega) | (unfold qo; omega)) ?_ | simp (disch := omega) only [qd] | simp (disch := omega) only [qn]) <;> (try simp only [go_sem, ↓reduceIte, Nat.reduceEqDiff, Nat.reduceAdd, Nat.reduceSub, Nat.reduceMul, Nat.reduceLT, Nat.reduceLeDiff, reduceCtorEq, Int.reduceToNat])))
          refine q6c (af' := ⟨[(0, .ptr 0 0), (1, .fn g [] [.ptr 1 0]), (6, .row 2 (acc.length + 1))], []⟩) (H' := [curE d', .blk [.ptr 0 0], .app 5 (encs (acc ++ [n]))]) ?_ (q4v [0, 1, 4] rfl (by simp) ?_ ?_ ?_)
          rotate_left
          all_goals (try simp only [← qq, List.nil_append, encs, List.length_nil])
          all_goals (try simp only [go_sem, ↓reduceIte, Nat.reduceEqDiff, Nat.reduceAdd, Nat.reduceSub, Nat.reduceMul, Nat.reduceLT, Nat.reduceLeDiff, reduceCtorEq, Int.reduceToNat])
          all_goals (try (rw [qq, q6, qbn]; exact ⟨rfl, rfl⟩))
          subst h9
          have hta : (qw d' [59]).1.good := (q8 _ _).1 j1
          have htr := (q8 d' [59]).2.1
          have hne3 : ¬ acc ++ [n] = [] := by simp
          have hlen : (acc ++ [n]).length = acc.length + 1 := by simp
          repeat' (first | refine qi ?_ | refine qk ?_ | ((first | refine qm ?_ | refine qj ?_ | refine qh ?_ | refine qg ?_ | refine qdh j1.ok ?_ | refine a_Is ?_ | refine qb0 hta.ok ?_ | ((first | refine qe ?_ ?_ | refine qc ?_ ?_) <;> intro hc <;> (try simp only [hc]) <;> (try simp only [qb, qa, decide_eq_true_eq, decide_eq_false_iff_not, Bool.and_eq_true] at hc)) | refine And.intro (by first | assumption | omega | (have := qf (by assumption); omega) | (unfold qo; omega)) ?_ | simp (disch := omega) only [qd] | simp (disch := omega) only [qn]) <;> (try simp only [go_sem, ↓reduceIte, Nat.reduceEqDiff, Nat.reduceAdd, Nat.reduceSub, Nat.reduceMul, Nat.reduceLT, Nat.reduceLeDiff, reduceCtorEq, Int.reduceToNat])))
          · have ht : (qw d' [59]).2 = false := by assumption
            rw [ht, Bool.false_and, if_neg (by simp)] at i3
            subst i3
            obtain rfl := hk2 (by simp)
            simp only [qbp (qbc hne3), qbo (qbc hne3), qbd, hlen, ← qq]
            simp only [go_sem, ↓reduceIte, Nat.reduceEqDiff, Nat.reduceAdd, Nat.reduceSub, Nat.reduceMul, Nat.reduceLT, Nat.reduceLeDiff, reduceCtorEq, Int.reduceToNat]
            all_goals first | (rw [qq]; exact q6 _ _) | exact ⟨rfl, rfl⟩ | rfl | (rw [qq, q6, qbn]; exact ⟨rfl, rfl⟩)
          · have ht : (qw d' [59]).2 = true := by assumption
            have hi : isK (qw d' [59]).1 [125] = true := by assumption
            rw [ht, hi, Bool.true_and, Bool.not_true, if_neg (by simp)] at i3
            subst i3
            obtain rfl := hk2 (by simp)
            simp only [qbp (qbc hne3), qbo (qbc hne3), qbd, hlen, ← qq]
            simp only [go_sem, ↓reduceIte, Nat.reduceEqDiff, Nat.reduceAdd, Nat.reduceSub, Nat.reduceMul, Nat.reduceLT, Nat.reduceLeDiff, reduceCtorEq, Int.reduceToNat]
            all_goals first | (rw [qq]; exact q6 _ _) | exact ⟨rfl, rfl⟩ | rfl | (rw [qq, q6, qbn]; exact ⟨rfl, rfl⟩)
          · have ht : (qw d' [59]).2 = true := by assumption
            have hi : isK (qw d' [59]).1 [125] = false := by assumption
            rw [ht, hi, Bool.true_and, Bool.not_false, if_pos rfl] at i3
            have htl := qcg ht
            refine qb5 (fu, (qw d' [59]).1, acc ++ [n]) [0, 1, 2] ⟨⟨hta, by simp only; omega, i3, by simp only; omega, by simp only [hlen]; omega⟩, by simp only; omega⟩ rfl (by simp) ?_ ?_ ?_
            all_goals simp only [qps, qbp (qbc hne3), qbo (qbc hne3), qbd, hlen, ← qq]
            all_goals simp only [go_sem, ↓reduceIte, Nat.reduceEqDiff, Nat.reduceAdd, Nat.reduceSub, Nat.reduceMul, Nat.reduceLT, Nat.reduceLeDiff, reduceCtorEq, Int.reduceToNat]
            all_goals first | (rw [qq]; exact q6 _ _) | exact ⟨rfl, rfl⟩ | rfl | (rw [qq, q6, qbn]; exact ⟨rfl, rfl⟩)
  · have hpa : qbr rd c = ((qx c [123]).1, [], false) := by rw [qbr, if_neg hw]
    rw [hpa] at hk1 hk2 ⊢
    obtain rfl := hk1 rfl
    repeat' (first | refine qi ?_ | refine qk ?_ | ((first | refine qm ?_ | refine qj ?_ | refine qh ?_ | refine qg ?_) <;> (try simp (disch := first | omega | (simp only [List.length_set, List.length_append, List.length_cons, List.length_nil]; done) | (simp only [List.length_set, List.length_append, List.length_cons, List.length_nil]; omega)) only [hw, go_sem, ↓reduceIte, Nat.reduceEqDiff, Nat.reduceAdd, Nat.reduceSub, Nat.reduceMul, Nat.reduceLT, Nat.reduceLeDiff, reduceCtorEq, Int.reduceToNat])) | ((first | ((first | refine qe ?_ ?_ | refine qc ?_ ?_) <;> intro hc <;> (try simp only [hc]) <;> (try simp only [qb, qa, decide_eq_true_eq, decide_eq_false_iff_not, Bool.and_eq_true] at hc)) | refine And.intro (by first | assumption | omega | (have := qf (by assumption); omega) | (unfold qo; omega)) ?_ | simp (disch := omega) only [qd] | simp (disch := omega) only [qn] | refine qb0 hg.ok ?_) <;> (try simp only [go_sem, ↓reduceIte, Nat.reduceEqDiff, Nat.reduceAdd, Nat.reduceSub, Nat.reduceMul, Nat.reduceLT, Nat.reduceLeDiff, reduceCtorEq, Int.reduceToNat])))
    exact ⟨rfl, rfl⟩
set_option maxRecDepth 4000

theorem qi7 {rd : K → R3} (hd : ∀ c, Mon c (rd c).1) (hl : ∀ c, (rd c).2.2 = true → rest (rd c).1 < rest c) : ∀ (f : Nat) (c : K) (acc : List N), (qcy rd f c acc).2.1.length ≤ acc.length + rest c
  | 0, c, acc => by simp [qcy]
  | f + 1, c, acc => by
    rw [qcy]
    split
    · rename_i h
      have h1 := hl c h
      split
      · have h2 := qi7 hd hl f (qw (rd c).1 [59]).1 (acc ++ [(rd c).2.1])
        have h3 := (q8 (rd c).1 [59]).2.1
        simp only [List.length_append, List.length_cons, List.length_nil] at h2
        omega
      · simp only [List.length_append, List.length_cons, List.length_nil]; omega
    · simp
theorem qld {rd : K → R3} (hd : ∀ c, Mon c (rd c).1) (hl : ∀ c, (rd c).2.2 = true → rest (rd c).1 < rest c) (c : K) : (qbr rd c).2.1.length ≤ rest c := by
  unfold qbr
  split
  · have h1 := qi7 hd hl (rest (qx c [123]).1 + 1) (qx c [123]).1 []
    have h2 := (qt c [123]).2.1
    simp only [List.length_nil] at h1
    omega
  · simp
theorem qk2 {rd : K → R3} : ∀ (f : Nat) (c : K) (acc : List N), (qcy rd f c acc).2.2 = true → (qcy rd f c acc).2.1 ≠ []
  | 0, c, acc => fun h => by cases h
  | f + 1, c, acc => fun h => by
    rw [qcy] at h ⊢
    split at h
    · rename_i h1
      rw [if_pos h1]
      split at h
      · rename_i h2
        rw [if_pos h2]
        exact qk2 f _ _ h
      · rename_i h2
        rw [if_neg h2]
        simp
    · cases h
theorem qt0 {rd : K → R3} {c : K} (h : (qbr rd c).2.2 = true) : (qbr rd c).2.1 ≠ [] := by
  unfold qbr at h ⊢
  split at h
  · rename_i h1
    rw [if_pos h1]
    exact qk2 _ _ _ h
  · cases h
theorem qpc {rd : K → R3} {g : FuncId} {c : K} (h : qj7 rd g c) (h0 : (qbr rd c).2.1 = []) {L : List Ent} {Q : List Ent → VO → Prop} (hq : Q (curE (qbr rd c).1 :: .blk [.ptr 0 0] :: L) (.val (.tup [.nils, .bool (qbr rd c).2.2]))) :
    VApp Try.prog (curE c :: .blk [.ptr 0 0] :: L) (.fn 88 [] []) [.ptr 0 0, .fn g [] [.ptr 1 0]] Q :=
  qby (first := []) (caps := []) (by
    simp only [List.nil_append, List.append_nil]
    refine qcs (H0 := [curE c, .blk [.ptr 0 0]]) (L := L) h (qg1 c) rfl ?_
    rintro H1 o ⟨rfl, rfl⟩
    rw [h0]
    exact ⟨rfl, qg1 _, rfl, hq⟩)
theorem qo8 {rd : K → R3} {g : FuncId} {c : K} (h : qj7 rd g c) (h0 : (qbr rd c).2.1 ≠ []) {L : List Ent} {Q : List Ent → VO → Prop}
    (hq : Q (curE (qbr rd c).1 :: .blk [.ptr 0 0] :: (L ++ [.app 5 (encs (qbr rd c).2.1)])) (.val (.tup [.row (L.length + 2) (qbr rd c).2.1.length, .bool (qbr rd c).2.2]))) :
    VApp Try.prog (curE c :: .blk [.ptr 0 0] :: L) (.fn 88 [] []) [.ptr 0 0, .fn g [] [.ptr 1 0]] Q :=
  qby (first := []) (caps := []) (by
    simp only [List.nil_append, List.append_nil]
    have hne := qbc h0
    have hs : AV.rens (sg [0, 1]) [.ptr 0 0, .fn g [] [.ptr 1 0]] = [.ptr 0 0, .fn g [] [.ptr 1 0]] := rfl
    rw [← hs]
    have ha : AV.bds 2 [.ptr 0 0, .fn g [] [.ptr 1 0]] = true := rfl
    have napp_ren : ∀ σ : Nat → Nat, (Ent.app 5 (encs (qbr rd c).2.1)).ren σ = .app 5 (encs (qbr rd c).2.1) := fun σ => Ent.ren_same (m := 0) (fun i hi => by omega) _ (by simp [Ent.bd, q6])
    have hp : ∀ σ : Nat → Nat, σ 0 = 0 → (Ent.blk [.ptr 0 0]).ren σ = .blk [.ptr 0 0] := fun σ h => by simp [Ent.ren, AV.rens, AV.ren, h]
    refine qeu (H0 := [curE c, .blk [.ptr 0 0]]) [0, 1] h (by simp) (by simp) rfl ?_ ha ?_
    · intro j e2 hj
      have hj2 : j < 2 := by have := (List.getElem?_eq_some_iff.1 hj).1; simpa using this
      have : j = 0 ∨ j = 1 := by omega
      rcases this with rfl | rfl
      · simp only [List.getElem?_cons_zero, Option.some.injEq] at hj
        subst hj
        exact .inr ⟨q7 _ _, by rw [qci]; rfl⟩
      · simp only [List.getElem?_cons_succ, List.getElem?_cons_zero, Option.some.injEq] at hj
        subst hj
        exact .inr ⟨rfl, rfl⟩
    rintro H1 o ⟨rfl, rfl⟩
    have hq2 : (Ent.blk [.ptr 0 0]).ren (sg' [0, 1] (L.length + 1 + 1)) = .blk [.ptr 0 0] := hp _ rfl
    simp only [qbp hne, qbo hne, qbd, List.length_cons, List.length_nil, List.take_succ_cons, List.take_zero, List.map_nil, qbq, List.drop_zero, List.drop_succ_cons, List.map_cons, qci, napp_ren, hq2, VO.ren, AV.ren, AV.rens, List.set_cons_zero, List.set_cons_succ]
    exact hq)
def posZ (p : Int) : AV := .agg [.int .i64 0, .int .i64 p, .int .i64 0, .str [], .nils]
theorem qf2 (p : Int) : AV.agg [.int .i64 0, .int .i64 p, .int .i64 0, .str [], .sl 5 []] = enc (posN p) := by simp only [posN, enc, encs]
theorem qrd (p e : N) : AV.agg [.int .i64 15, .int .i64 p.pos, .int .i64 0, .str [], .sl 5 [enc p, enc e]] = enc (altN p e) := by simp only [altN, enc, encs]
section
variable {rec : K → K × Option N} {b : Nat} (ih : ∀ c, c.good → rest c < b → qbz Try.prog 66 (curE c) (curE (rec c).1) [.ptr 0 0] (resP (rec c).2))
include ih
theorem q2b (c : K) (hg : c.good) (hr : rest c ≤ b) : VClo 89 c (ofO (qcp rec c)).1 (ofO (qcp rec c)).2 := by
  refine qs c0bf 2 (by simp) (by simp) ?_
  repeat' (first | refine qi ?_ | ((first | refine qm ?_ | refine qj ?_ | refine qb7 (qmk ih c hg hr) rfl ?_ | ((first | refine qe ?_ ?_ | refine qc ?_ ?_) <;> intro hc <;> (try simp only [hc]) <;> (try simp only [qb, qa, decide_eq_true_eq, decide_eq_false_iff_not, Bool.and_eq_true] at hc)) | refine And.intro (by first | assumption | omega | (have := qf (by assumption); omega) | (unfold qo; omega)) ?_ | simp (disch := omega) only [qd] | simp (disch := omega) only [qn]) <;> (try simp only [go_sem, ↓reduceIte, Nat.reduceEqDiff, Nat.reduceAdd, Nat.reduceSub, Nat.reduceMul, Nat.reduceLT, Nat.reduceLeDiff, reduceCtorEq, Int.reduceToNat])))
  exact ⟨rfl, rfl⟩
theorem qt6 (c : K) (hg : c.good) (hr : rest c ≤ b) : VClo 90 c (qe4 rec c).1 (qe4 rec c).2 := by
  have hp := qbed (rest c + 2) c hg (by omega)
  have g1 : (qcq (rest c + 2) c).1.good := (qe7 _ c).1 hg
  have hr1 : rest (qcq (rest c + 2) c).1 ≤ b := by have := (qe7 (rest c + 2) c).2.1; omega
  refine qs c0bg 2 (by simp) (by simp) ?_
  unfold qe4
  generalize qcq (rest c + 2) c = r at *
  obtain ⟨d, o⟩ := r
  simp only at hp g1 hr1 ⊢
  have g2 : (qx d [45, 62]).1.good := (qt _ _).1 g1
  have hlt : (qx d [45, 62]).2 = true → rest (qx d [45, 62]).1 < b := fun h => by have := qe2 h; omega
  unfold altB altC
  cases o with
  | none =>
    repeat' (first | refine qi ?_ | ((first | refine qm ?_ | refine qj ?_ | refine qh ?_ | refine qg ?_) <;> (try simp (disch := first | omega | (simp only [List.length_set, List.length_append, List.length_cons, List.length_nil]; done) | (simp only [List.length_set, List.length_append, List.length_cons, List.length_nil]; omega)) only [Option.isSome_none, Option.getD_none, go_sem, ↓reduceIte, Nat.reduceEqDiff, Nat.reduceAdd, Nat.reduceSub, Nat.reduceMul, Nat.reduceLT, Nat.reduceLeDiff, reduceCtorEq, Int.reduceToNat])) | ((first | ((first | refine qe ?_ ?_ | refine qc ?_ ?_) <;> intro hc <;> (try simp only [hc]) <;> (try simp only [qb, qa, decide_eq_true_eq, decide_eq_false_iff_not, Bool.and_eq_true] at hc)) | refine And.intro (by first | assumption | omega | (have := qf (by assumption); omega) | (unfold qo; omega)) ?_ | simp (disch := omega) only [qd] | simp (disch := omega) only [qn] | refine qb7 hp rfl ?_) <;> (try simp only [go_sem, ↓reduceIte, Nat.reduceEqDiff, Nat.reduceAdd, Nat.reduceSub, Nat.reduceMul, Nat.reduceLT, Nat.reduceLeDiff, reduceCtorEq, Int.reduceToNat])))
    all_goals (try rfl)
  | some p =>
    by_cases hw : (qx d [45, 62]).2 = true
    · have hr := ih _ g2 (hlt hw)
      repeat' (first | refine qi ?_ | ((first | refine qm ?_ | refine qj ?_ | refine qh ?_ | refine qg ?_) <;> (try simp (disch := first | omega | (simp only [List.length_set, List.length_append, List.length_cons, List.length_nil]; done) | (simp only [List.length_set, List.length_append, List.length_cons, List.length_nil]; omega)) only [hw, Option.isSome_some, Option.getD_some, go_sem, ↓reduceIte, Nat.reduceEqDiff, Nat.reduceAdd, Nat.reduceSub, Nat.reduceMul, Nat.reduceLT, Nat.reduceLeDiff, reduceCtorEq, Int.reduceToNat])) | ((first | ((first | refine qe ?_ ?_ | refine qc ?_ ?_) <;> intro hc <;> (try simp only [hc]) <;> (try simp only [qb, qa, decide_eq_true_eq, decide_eq_false_iff_not, Bool.and_eq_true] at hc)) | refine And.intro (by first | assumption | omega | (have := qf (by assumption); omega) | (unfold qo; omega)) ?_ | simp (disch := omega) only [qd] | simp (disch := omega) only [qn] | refine qb7 hp rfl ?_ | refine qb0 g1.ok ?_ | refine qb7 hr rfl ?_) <;> (try simp only [go_sem, ↓reduceIte, Nat.reduceEqDiff, Nat.reduceAdd, Nat.reduceSub, Nat.reduceMul, Nat.reduceLT, Nat.reduceLeDiff, reduceCtorEq, Int.reduceToNat])))
      all_goals first | (rw [qrd]; done) | (rw [qrd]; rfl) | (rw [qrd]; exact ⟨rfl, rfl⟩)
    · repeat' (first | refine qi ?_ | ((first | refine qm ?_ | refine qj ?_ | refine qh ?_ | refine qg ?_) <;> (try simp (disch := first | omega | (simp only [List.length_set, List.length_append, List.length_cons, List.length_nil]; done) | (simp only [List.length_set, List.length_append, List.length_cons, List.length_nil]; omega)) only [hw, Option.isSome_some, Option.getD_some, go_sem, ↓reduceIte, Nat.reduceEqDiff, Nat.reduceAdd, Nat.reduceSub, Nat.reduceMul, Nat.reduceLT, Nat.reduceLeDiff, reduceCtorEq, Int.reduceToNat])) | ((first | ((first | refine qe ?_ ?_ | refine qc ?_ ?_) <;> intro hc <;> (try simp only [hc]) <;> (try simp only [qb, qa, decide_eq_true_eq, decide_eq_false_iff_not, Bool.and_eq_true] at hc)) | refine And.intro (by first | assumption | omega | (have := qf (by assumption); omega) | (unfold qo; omega)) ?_ | simp (disch := omega) only [qd] | simp (disch := omega) only [qn] | refine qb7 hp rfl ?_ | refine qb0 g1.ok ?_) <;> (try simp only [go_sem, ↓reduceIte, Nat.reduceEqDiff, Nat.reduceAdd, Nat.reduceSub, Nat.reduceMul, Nat.reduceLT, Nat.reduceLeDiff, reduceCtorEq, Int.reduceToNat])))
      all_goals (try rfl)
end
set_option maxRecDepth 4000

theorem qbgj (p : Int) (l : List N) (k : N) : AV.agg [.int .i64 26, .int .i64 p, .int .i64 0, .str [], .sl 5 (encs l ++ [enc k])] = enc (.mk 26 p 0 [] (l ++ [k])) := by simp only [enc, qq]
section
variable {rec : K → K × Option N} {b : Nat} (hm : ∀ c, Mon c (rec c).1) (ih : ∀ c, c.good → rest c < b → qbz Try.prog 66 (curE c) (curE (rec c).1) [.ptr 0 0] (resP (rec c).2))
include hm ih
theorem q8e (p : Int) (c : K) (hg : c.good) (hr : rest c ≤ b) : qbz Try.prog 82 (curE c) (curE (qjb rec p c).1) [.ptr 0 0, posZ p] (resB (qjb rec p c).2) := by
  have hd : ∀ c, Mon c (ofO (qcp rec c)).1 := fun c => qhk hm c
  have hl : ∀ c, (ofO (qcp rec c)).2.2 = true → rest (ofO (qcp rec c)).1 < rest c := fun c h => qi1 hm h
  have hS := qs8 (g := 89) hd hl (fun c g r => q2b ih c g r) c hg hr
  have hlen := qld hd hl c
  have hne := @qt0 (fun c => ofO (qcp rec c)) c
  have g1 : (qbr (fun c => ofO (qcp rec c)) c).1.good := (qf3 hd c).1 hg
  have hr1 : rest (qbr (fun c => ofO (qcp rec c)) c).1 ≤ b := by have := (qf3 hd c).2.1; omega
  have happ0 := @qpc _ _ _ hS
  have happ1 := @qo8 _ _ _ hS
  have hgr := hg.rest
  clear hS hd hl
  refine qs c0bb 1 (by simp) (by simp [posZ]) ?_
  unfold qjb posZ
  generalize qbr (fun c => ofO (qcp rec c)) c = L at *
  obtain ⟨d, l, ok⟩ := L
  simp only at hlen hne g1 hr1 happ0 happ1
  have g2 : (qx d [105, 110]).1.good := (qt _ _).1 g1
  have hlt : (qx d [105, 110]).2 = true → rest (qx d [105, 110]).1 < b := fun h => by have := qe2 h; omega
  have hcap : qo (l.length + 1) 64 := capN (by unfold rest at hlen; omega)
  unfold letB letC
  by_cases h0 : l = []
  · subst h0
    have ok0 : ok = false := by cases ok with | false => rfl | true => exact absurd rfl (hne rfl)
    subst ok0
    repeat' (first | refine qi ?_ | ((first | refine qm ?_ | refine qj ?_ | refine qh ?_ | refine qg ?_ | refine happ0 rfl ?_ | ((first | refine qe ?_ ?_ | refine qc ?_ ?_) <;> intro hc <;> (try simp only [hc]) <;> (try simp only [qb, qa, decide_eq_true_eq, decide_eq_false_iff_not, Bool.and_eq_true] at hc)) | refine And.intro (by first | assumption | omega | (have := qf (by assumption); omega) | (unfold qo; omega)) ?_ | simp (disch := omega) only [qd] | simp (disch := omega) only [qn]) <;> (try simp only [go_sem, ↓reduceIte, Nat.reduceEqDiff, Nat.reduceAdd, Nat.reduceSub, Nat.reduceMul, Nat.reduceLT, Nat.reduceLeDiff, reduceCtorEq, Int.reduceToNat])))
    all_goals (try rw [qf2])
    all_goals (try exact ⟨rfl, rfl⟩)
  · cases ok with
    | false =>
      repeat' (first | refine qi ?_ | ((first | refine qm ?_ | refine qj ?_ | refine qh ?_ | refine qg ?_ | refine happ1 h0 ?_ | ((first | refine qe ?_ ?_ | refine qc ?_ ?_) <;> intro hc <;> (try simp only [hc]) <;> (try simp only [qb, qa, decide_eq_true_eq, decide_eq_false_iff_not, Bool.and_eq_true] at hc)) | refine And.intro (by first | assumption | omega | (have := qf (by assumption); omega) | (unfold qo; omega)) ?_ | simp (disch := omega) only [qd] | simp (disch := omega) only [qn]) <;> (try simp only [go_sem, ↓reduceIte, Nat.reduceEqDiff, Nat.reduceAdd, Nat.reduceSub, Nat.reduceMul, Nat.reduceLT, Nat.reduceLeDiff, reduceCtorEq, Int.reduceToNat])))
      all_goals (try rw [qf2])
      all_goals (try exact ⟨rfl, rfl⟩)
    | true =>
      by_cases hw : (qx d [105, 110]).2 = true
      · have hr := ih _ g2 (hlt hw)
        repeat' (first | refine qi ?_ | ((first | refine qm ?_ | refine qj ?_ | refine qh ?_ | refine qg ?_) <;> (try simp (disch := first | omega | (simp only [List.length_set, List.length_append, List.length_cons, List.length_nil]; done) | (simp only [List.length_set, List.length_append, List.length_cons, List.length_nil]; omega)) only [hw, go_sem, ↓reduceIte, Nat.reduceEqDiff, Nat.reduceAdd, Nat.reduceSub, Nat.reduceMul, Nat.reduceLT, Nat.reduceLeDiff, reduceCtorEq, Int.reduceToNat])) | ((first | ((first | refine qe ?_ ?_ | refine qc ?_ ?_) <;> intro hc <;> (try simp only [hc]) <;> (try simp only [qb, qa, decide_eq_true_eq, decide_eq_false_iff_not, Bool.and_eq_true] at hc)) | refine And.intro (by first | assumption | omega | (have := qf (by assumption); omega) | (unfold qo; omega)) ?_ | simp (disch := omega) only [qd] | simp (disch := omega) only [qn] | refine happ1 h0 ?_ | refine qb0 g1.ok ?_ | refine qb7 hr rfl ?_) <;> (try simp only [go_sem, ↓reduceIte, Nat.reduceEqDiff, Nat.reduceAdd, Nat.reduceSub, Nat.reduceMul, Nat.reduceLT, Nat.reduceLeDiff, reduceCtorEq, Int.reduceToNat])))
        all_goals (try rw [qbgj])
        all_goals exact ⟨by rw [qq, q6], rfl⟩
      · repeat' (first | refine qi ?_ | ((first | refine qm ?_ | refine qj ?_ | refine qh ?_ | refine qg ?_) <;> (try simp (disch := first | omega | (simp only [List.length_set, List.length_append, List.length_cons, List.length_nil]; done) | (simp only [List.length_set, List.length_append, List.length_cons, List.length_nil]; omega)) only [hw, go_sem, ↓reduceIte, Nat.reduceEqDiff, Nat.reduceAdd, Nat.reduceSub, Nat.reduceMul, Nat.reduceLT, Nat.reduceLeDiff, reduceCtorEq, Int.reduceToNat])) | ((first | ((first | refine qe ?_ ?_ | refine qc ?_ ?_) <;> intro hc <;> (try simp only [hc]) <;> (try simp only [qb, qa, decide_eq_true_eq, decide_eq_false_iff_not, Bool.and_eq_true] at hc)) | refine And.intro (by first | assumption | omega | (have := qf (by assumption); omega) | (unfold qo; omega)) ?_ | simp (disch := omega) only [qd] | simp (disch := omega) only [qn] | refine happ1 h0 ?_ | refine qb0 g1.ok ?_) <;> (try simp only [go_sem, ↓reduceIte, Nat.reduceEqDiff, Nat.reduceAdd, Nat.reduceSub, Nat.reduceMul, Nat.reduceLT, Nat.reduceLeDiff, reduceCtorEq, Int.reduceToNat])))
        all_goals (try rw [qf2])
        all_goals (try exact ⟨rfl, rfl⟩)
theorem qwv (p : Int) (c : K) (hg : c.good) (hr : rest c < b) : qbz Try.prog 83 (curE c) (curE (qgk rec p c).1) [.ptr 0 0, posZ p] (resB (qgk rec p c).2) := by
  have hd : ∀ c, Mon c (qe4 rec c).1 := fun c => ql7 hm c
  have hl : ∀ c, (qe4 rec c).2.2 = true → rest (qe4 rec c).1 < rest c := fun c h => qrf hm h
  have hx := ih c hg hr
  have g1 : (rec c).1.good := (hm c).1 hg
  have hr1 := (hm c).2.1
  refine qs c0bc 1 (by simp) (by simp [posZ]) ?_
  unfold qgk posZ
  generalize rec c = r0 at *
  obtain ⟨d0, o⟩ := r0
  simp only at g1 hr1 hx ⊢
  have g2 : (qx d0 [111, 102]).1.good := (qt _ _).1 g1
  have hr2 : rest (qx d0 [111, 102]).1 ≤ b := by have := (qt d0 [111, 102]).2.1; omega
  have hS := qs8 (g := 90) hd hl (fun c g r => qt6 ih c g r) (qx d0 [111, 102]).1 g2 hr2
  have hlen := qld hd hl (qx d0 [111, 102]).1
  have happ0 := @qpc _ _ _ hS
  have happ1 := @qo8 _ _ _ hS
  have hgr := g2.rest
  clear hS hd hl
  unfold q1x q0c
  cases o with
  | none =>
    repeat' (first | refine qi ?_ | ((first | refine qm ?_ | refine qj ?_ | refine qh ?_ | refine qg ?_) <;> (try simp (disch := first | omega | (simp only [List.length_set, List.length_append, List.length_cons, List.length_nil]; done) | (simp only [List.length_set, List.length_append, List.length_cons, List.length_nil]; omega)) only [Option.isSome_none, Option.getD_none, go_sem, ↓reduceIte, Nat.reduceEqDiff, Nat.reduceAdd, Nat.reduceSub, Nat.reduceMul, Nat.reduceLT, Nat.reduceLeDiff, reduceCtorEq, Int.reduceToNat])) | ((first | ((first | refine qe ?_ ?_ | refine qc ?_ ?_) <;> intro hc <;> (try simp only [hc]) <;> (try simp only [qb, qa, decide_eq_true_eq, decide_eq_false_iff_not, Bool.and_eq_true] at hc)) | refine And.intro (by first | assumption | omega | (have := qf (by assumption); omega) | (unfold qo; omega)) ?_ | simp (disch := omega) only [qd] | simp (disch := omega) only [qn] | refine qb7 hx rfl ?_) <;> (try simp only [go_sem, ↓reduceIte, Nat.reduceEqDiff, Nat.reduceAdd, Nat.reduceSub, Nat.reduceMul, Nat.reduceLT, Nat.reduceLeDiff, reduceCtorEq, Int.reduceToNat])))
    all_goals (try rw [qf2])
    all_goals (try exact ⟨rfl, rfl⟩)
  | some x =>
    by_cases hw : (qx d0 [111, 102]).2 = true
    · generalize qbr (qe4 rec) (qx d0 [111, 102]).1 = L at *
      obtain ⟨d, l, ok⟩ := L
      simp only at hlen happ0 happ1 ⊢
      have hcap : qo (1 + l.length) 64 := capN (by unfold rest at hlen; omega)
      by_cases h0 : l = []
      · subst h0
        repeat' (first | refine qi ?_ | ((first | refine qm ?_ | refine qj ?_ | refine qh ?_ | refine qg ?_) <;> (try simp (disch := first | omega | (simp only [List.length_set, List.length_append, List.length_cons, List.length_nil]; done) | (simp only [List.length_set, List.length_append, List.length_cons, List.length_nil]; omega)) only [hw, Option.isSome_some, Option.getD_some, go_sem, ↓reduceIte, Nat.reduceEqDiff, Nat.reduceAdd, Nat.reduceSub, Nat.reduceMul, Nat.reduceLT, Nat.reduceLeDiff, reduceCtorEq, Int.reduceToNat])) | ((first | ((first | refine qe ?_ ?_ | refine qc ?_ ?_) <;> intro hc <;> (try simp only [hc]) <;> (try simp only [qb, qa, decide_eq_true_eq, decide_eq_false_iff_not, Bool.and_eq_true] at hc)) | refine And.intro (by first | assumption | omega | (have := qf (by assumption); omega) | (unfold qo; omega)) ?_ | simp (disch := omega) only [qd] | simp (disch := omega) only [qn] | refine qb7 hx rfl ?_ | refine qb0 g1.ok ?_ | refine happ0 rfl ?_) <;> (try simp only [go_sem, ↓reduceIte, Nat.reduceEqDiff, Nat.reduceAdd, Nat.reduceSub, Nat.reduceMul, Nat.reduceLT, Nat.reduceLeDiff, reduceCtorEq, Int.reduceToNat])))
        all_goals (try simp only [enc, encs])
      · have hnl : ¬ l.length = 0 := fun h => h0 (List.length_eq_zero_iff.1 h)
        repeat' (first | refine qi ?_ | ((first | refine qm ?_ | refine qj ?_ | refine qh ?_ | refine qg ?_) <;> (try simp (disch := first | omega | (simp only [List.length_set, List.length_append, List.length_cons, List.length_nil]; done) | (simp only [List.length_set, List.length_append, List.length_cons, List.length_nil]; omega)) only [hw, hnl, hcap, Option.isSome_some, Option.getD_some, go_sem, ↓reduceIte, Nat.reduceEqDiff, Nat.reduceAdd, Nat.reduceSub, Nat.reduceMul, Nat.reduceLT, Nat.reduceLeDiff, reduceCtorEq, Int.reduceToNat])) | ((first | ((first | refine qe ?_ ?_ | refine qc ?_ ?_) <;> intro hc <;> (try simp only [hc]) <;> (try simp only [qb, qa, decide_eq_true_eq, decide_eq_false_iff_not, Bool.and_eq_true] at hc)) | refine And.intro (by first | assumption | omega | (have := qf (by assumption); omega) | (unfold qo; omega)) ?_ | simp (disch := omega) only [qd] | simp (disch := omega) only [qn] | refine qb7 hx rfl ?_ | refine qb0 g1.ok ?_ | refine happ1 h0 ?_) <;> (try simp only [go_sem, ↓reduceIte, Nat.reduceEqDiff, Nat.reduceAdd, Nat.reduceSub, Nat.reduceMul, Nat.reduceLT, Nat.reduceLeDiff, reduceCtorEq, Int.reduceToNat])))
        have hcm : l.length + 1 = 1 + l.length := Nat.add_comm _ _
        simp only [hcm, if_true, enc, encs, AV.bd, AV.bds, qja, q6, Bool.and_true, and_self]
    · repeat' (first | refine qi ?_ | ((first | refine qm ?_ | refine qj ?_ | refine qh ?_ | refine qg ?_) <;> (try simp (disch := first | omega | (simp only [List.length_set, List.length_append, List.length_cons, List.length_nil]; done) | (simp only [List.length_set, List.length_append, List.length_cons, List.length_nil]; omega)) only [hw, Option.isSome_some, Option.getD_some, go_sem, ↓reduceIte, Nat.reduceEqDiff, Nat.reduceAdd, Nat.reduceSub, Nat.reduceMul, Nat.reduceLT, Nat.reduceLeDiff, reduceCtorEq, Int.reduceToNat])) | ((first | ((first | refine qe ?_ ?_ | refine qc ?_ ?_) <;> intro hc <;> (try simp only [hc]) <;> (try simp only [qb, qa, decide_eq_true_eq, decide_eq_false_iff_not, Bool.and_eq_true] at hc)) | refine And.intro (by first | assumption | omega | (have := qf (by assumption); omega) | (unfold qo; omega)) ?_ | simp (disch := omega) only [qd] | simp (disch := omega) only [qn] | refine qb7 hx rfl ?_ | refine qb0 g1.ok ?_) <;> (try simp only [go_sem, ↓reduceIte, Nat.reduceEqDiff, Nat.reduceAdd, Nat.reduceSub, Nat.reduceMul, Nat.reduceLT, Nat.reduceLeDiff, reduceCtorEq, Int.reduceToNat])))
      all_goals (try rw [qf2])
      all_goals (try exact ⟨rfl, rfl⟩)
def qwi (p : Int) (x : Nat × K × List N) : AF × List Ent :=
  (⟨[(0, .ptr 0 0), (3, .ptr 1 0), (4, .ptr 2 0), (11, .agg (ifsW.map AV.str)), (12, .int .i64 x.1)], []⟩,
    curE x.2.1 :: .blk [.int .i64 28, .int .i64 p, .int .i64 0, .str [], accV 3 (encs x.2.2)] :: .blk [.int .i64 0, .int .i64 0, .int .i64 0, .str [], .nils] :: accE 5 (encs x.2.2))
theorem q58 (p : Int) (c : K) (hg : c.good) (hr : rest c < b) : qbz Try.prog 84 (curE c) (curE (qex rec p ifsW c []).1) [.ptr 0 0, posZ p] (resB (qex rec p ifsW c []).2) := by
  refine qs c0bd 1 (by simp) (by simp [posZ]) ?_
  unfold posZ
  generalize htg : qex rec p ifsW c [] = tg
  have hW : AV.agg (ifsW.map AV.str) = .agg [.str [], .str [116, 104, 101, 110], .str [101, 108, 115, 101]] := rfl
  repeat' (first | refine qi ?_ | refine qk ?_ | ((first | refine qm ?_ | refine qj ?_ | refine qr ?_ | refine qh ?_ | refine qg ?_ | ((first | refine qe ?_ ?_ | refine qc ?_ ?_) <;> intro hc <;> (try simp only [hc]) <;> (try simp only [qb, qa, decide_eq_true_eq, decide_eq_false_iff_not, Bool.and_eq_true] at hc)) | refine And.intro (by first | assumption | omega | (have := qf (by assumption); omega) | (unfold qo; omega)) ?_ | simp (disch := omega) only [qd] | simp (disch := omega) only [qn]) <;> (try simp only [go_sem, ↓reduceIte, Nat.reduceEqDiff, Nat.reduceAdd, Nat.reduceSub, Nat.reduceMul, Nat.reduceLT, Nat.reduceLeDiff, reduceCtorEq, Int.reduceToNat])))
  refine qcx (S := Nat × K × List N) (fun x => x.1 ≤ 3 ∧ x.2.1.good ∧ rest x.2.1 < b ∧ qex rec p (ifsW.drop x.1) x.2.1 x.2.2 = tg ∧ x.2.2.length = x.1)
    (qwi p) (fun x => 3 - x.1) ?_ ?_
  · refine qb5 (0, c, []) [0, 1, 2] ⟨by simp, hg, hr, htg, rfl⟩ rfl (by simp) ?_ ?_ ?_
    all_goals simp only [qwi, hW, encs, qbh, qbj]
    all_goals simp only [go_sem, ↓reduceIte, Nat.reduceEqDiff, Nat.reduceAdd, Nat.reduceSub, Nat.reduceMul, Nat.reduceLT, Nat.reduceLeDiff, reduceCtorEq, Int.reduceToNat]
  · rintro ⟨i, d, acc⟩ ⟨i1, i2, i3, i4, i5⟩
    simp only at i1 i2 i3 i4 i5
    unfold qwi
    by_cases hlt : i < 3
    · have hil : (i : Int) < 3 := by omega
      have hd := qkl (ls := ifsW) (i := i) (by simpa [ifsW] using hlt)
      rw [hd, qex] at i4
      have hw0 : ifsW.getD i [] = [] ↔ i = 0 := by
        have : i = 0 ∨ i = 1 ∨ i = 2 := by omega
        rcases this with rfl | rfl | rfl <;> simp [ifsW]
      have hln : (ifsW.map AV.str).length = 3 := rfl
      have hln2 : i < ifsW.length := hlt
      have hget : (ifsW.map AV.str).getD i .junk = .str (ifsW.getD i []) := qo6 hln2
      clear hd
      generalize ifsW.getD i [] = w at *
      have hab : ∀ k, AV.bds k (ifsW.map AV.str) = true := fun k => qm4 k _
      have har : ∀ σ : Nat → Nat, AV.rens σ (ifsW.map AV.str) = ifsW.map AV.str := fun σ => qsu σ _
      generalize hW2 : ifsW.map AV.str = aw at *
      by_cases h0 : i = 0
      · subst h0
        have hw : w = [] := hw0.2 rfl
        have ha : acc = [] := List.length_eq_zero_iff.1 i5
        subst hw ha
        have hx := ih d i2 i3
        have g1 : (rec d).1.good := (hm d).1 i2
        have hr1 := (hm d).2.1
        rw [ifsK, if_pos rfl] at i4
        simp only [if_true] at i4
        generalize rec d = r at *
        obtain ⟨d', o⟩ := r
        simp only at g1 hr1 hx i4
        have hcap : qo 1 64 := capN (by omega)
        simp only [encs, qbh, qbj]
        cases o with
        | none =>
          rw [if_neg (by simp)] at i4
          subst i4
          repeat' (first | refine qi ?_ | refine qk ?_ | ((first | refine qm ?_ | refine qj ?_ | refine qr ?_ | refine qh ?_ | refine qg ?_) <;> (try simp (disch := first | omega | (simp only [List.length_set, List.length_append, List.length_cons, List.length_nil]; done) | (simp only [List.length_set, List.length_append, List.length_cons, List.length_nil]; omega)) only [hil, hget, hln, ne_eq, not_true_eq_false, not_false_eq_true, decide_true, decide_false, Option.isSome_none, Option.isSome_some, Option.getD_none, Option.getD_some, go_sem, ↓reduceIte, Nat.reduceEqDiff, Nat.reduceAdd, Nat.reduceSub, Nat.reduceMul, Nat.reduceLT, Nat.reduceLeDiff, reduceCtorEq, Int.reduceToNat])) | ((first | ((first | refine qe ?_ ?_ | refine qc ?_ ?_) <;> intro hc <;> (try simp only [hc]) <;> (try simp only [qb, qa, decide_eq_true_eq, decide_eq_false_iff_not, Bool.and_eq_true] at hc)) | refine And.intro (by first | assumption | omega | (have := qf (by assumption); omega) | (unfold qo; omega)) ?_ | simp (disch := omega) only [qd] | simp (disch := omega) only [qn] | refine qb7 hx rfl ?_) <;> (try simp only [go_sem, ↓reduceIte, Nat.reduceEqDiff, Nat.reduceAdd, Nat.reduceSub, Nat.reduceMul, Nat.reduceLT, Nat.reduceLeDiff, reduceCtorEq, Int.reduceToNat])))
          all_goals first | (simp only [enc, encs]; done) | (exfalso; omega)
        | some n =>
          rw [if_pos (by rfl)] at i4
          repeat' (first | refine qi ?_ | refine qk ?_ | ((first | refine qm ?_ | refine qj ?_ | refine qr ?_ | refine qh ?_ | refine qg ?_) <;> (try simp (disch := first | omega | (simp only [List.length_set, List.length_append, List.length_cons, List.length_nil]; done) | (simp only [List.length_set, List.length_append, List.length_cons, List.length_nil]; omega)) only [hil, hget, hln, ne_eq, not_true_eq_false, not_false_eq_true, decide_true, decide_false, Option.isSome_none, Option.isSome_some, Option.getD_none, Option.getD_some, go_sem, ↓reduceIte, Nat.reduceEqDiff, Nat.reduceAdd, Nat.reduceSub, Nat.reduceMul, Nat.reduceLT, Nat.reduceLeDiff, reduceCtorEq, Int.reduceToNat])) | ((first | ((first | refine qe ?_ ?_ | refine qc ?_ ?_) <;> intro hc <;> (try simp only [hc]) <;> (try simp only [qb, qa, decide_eq_true_eq, decide_eq_false_iff_not, Bool.and_eq_true] at hc)) | refine And.intro (by first | assumption | omega | (have := qf (by assumption); omega) | (unfold qo; omega)) ?_ | simp (disch := omega) only [qd] | simp (disch := omega) only [qn] | refine qb7 hx rfl ?_) <;> (try simp only [go_sem, ↓reduceIte, Nat.reduceEqDiff, Nat.reduceAdd, Nat.reduceSub, Nat.reduceMul, Nat.reduceLT, Nat.reduceLeDiff, reduceCtorEq, Int.reduceToNat])))
          · refine qb5 (1, d', [n]) [0, 1, 2, 4] ⟨⟨by simp, g1, by simp only; omega, by simpa using i4, rfl⟩, by simp⟩ rfl (by simp) ?_ ?_ ?_
            all_goals simp only [qwi, hW2, encs, qfe, qfl]
            all_goals simp only [go_sem, ↓reduceIte, Nat.reduceEqDiff, Nat.reduceAdd, Nat.reduceSub, Nat.reduceMul, Nat.reduceLT, Nat.reduceLeDiff, reduceCtorEq, Int.reduceToNat]
            all_goals (try simp only [hab, har, show IntKind.i64.wrap (0 + 1) = ((1 : Nat) : Int) by rfl, and_self, true_and])
            all_goals (try rfl)
          · exfalso; omega
      · have hwn : (w = []) = False := eq_false (fun h => h0 (hw0.1 h))
        have ha : acc ≠ [] := fun h => h0 (by rw [← i5, h]; rfl)
        have hne := qbc ha
        have hik : ifsK d w = qx d w := by rw [ifsK, if_neg (fun h => h0 (hw0.1 h))]
        rw [hik] at i4
        have g1 : (qx d w).1.good := (qt d w).1 i2
        have hr1 := (qt d w).2.1
        have hx := ih (qx d w).1 g1 (by omega)
        have g2 : (rec (qx d w).1).1.good := (hm _).1 g1
        have hr2 := (hm (qx d w).1).2.1
        have hcap : qo (acc.length + 1) 64 := capN (by omega)
        simp only [qbo hne, qbp hne, qbd]
        by_cases hwt : (qx d w).2 = true
        · rw [if_pos hwt] at i4
          generalize rec (qx d w).1 = r at *
          obtain ⟨d', o⟩ := r
          simp only at g2 hr2 hx i4
          cases o with
          | none =>
            rw [if_neg (by simp)] at i4
            subst i4
            repeat' (first | refine qi ?_ | refine qk ?_ | ((first | refine qm ?_ | refine qj ?_ | refine qr ?_ | refine qh ?_ | refine qg ?_) <;> (try simp (disch := first | omega | (simp only [List.length_set, List.length_append, List.length_cons, List.length_nil]; done) | (simp only [List.length_set, List.length_append, List.length_cons, List.length_nil]; omega)) only [hil, hwn, Nat.mul_one, hget, hln, ne_eq, not_true_eq_false, not_false_eq_true, decide_true, decide_false, Option.isSome_none, Option.isSome_some, Option.getD_none, Option.getD_some, hwt, go_sem, ↓reduceIte, Nat.reduceEqDiff, Nat.reduceAdd, Nat.reduceSub, Nat.reduceMul, Nat.reduceLT, Nat.reduceLeDiff, reduceCtorEq, Int.reduceToNat])) | ((first | ((first | refine qe ?_ ?_ | refine qc ?_ ?_) <;> intro hc <;> (try simp only [hc]) <;> (try simp only [qb, qa, decide_eq_true_eq, decide_eq_false_iff_not, Bool.and_eq_true] at hc)) | refine And.intro (by first | assumption | omega | (have := qf (by assumption); omega) | (unfold qo; omega)) ?_ | simp (disch := omega) only [qd] | simp (disch := omega) only [qn] | refine qb7 hx rfl ?_ | refine qb0 i2.ok ?_) <;> (try simp only [go_sem, ↓reduceIte, Nat.reduceEqDiff, Nat.reduceAdd, Nat.reduceSub, Nat.reduceMul, Nat.reduceLT, Nat.reduceLeDiff, reduceCtorEq, Int.reduceToNat])))
            all_goals (simp only [enc, encs])
          | some n =>
            rw [if_pos (by rfl)] at i4
            repeat' (first | refine qi ?_ | refine qk ?_ | ((first | refine qm ?_ | refine qj ?_ | refine qr ?_ | refine qh ?_ | refine qg ?_) <;> (try simp (disch := first | omega | (simp only [List.length_set, List.length_append, List.length_cons, List.length_nil]; done) | (simp only [List.length_set, List.length_append, List.length_cons, List.length_nil]; omega)) only [hil, hwn, Nat.mul_one, hget, hln, ne_eq, not_true_eq_false, not_false_eq_true, decide_true, decide_false, Option.isSome_none, Option.isSome_some, Option.getD_none, Option.getD_some, hwt, go_sem, ↓reduceIte, Nat.reduceEqDiff, Nat.reduceAdd, Nat.reduceSub, Nat.reduceMul, Nat.reduceLT, Nat.reduceLeDiff, reduceCtorEq, Int.reduceToNat])) | ((first | ((first | refine qe ?_ ?_ | refine qc ?_ ?_) <;> intro hc <;> (try simp only [hc]) <;> (try simp only [qb, qa, decide_eq_true_eq, decide_eq_false_iff_not, Bool.and_eq_true] at hc)) | refine And.intro (by first | assumption | omega | (have := qf (by assumption); omega) | (unfold qo; omega)) ?_ | simp (disch := omega) only [qd] | simp (disch := omega) only [qn] | refine qb7 hx rfl ?_ | refine qb0 i2.ok ?_) <;> (try simp only [go_sem, ↓reduceIte, Nat.reduceEqDiff, Nat.reduceAdd, Nat.reduceSub, Nat.reduceMul, Nat.reduceLT, Nat.reduceLeDiff, reduceCtorEq, Int.reduceToNat])))
            refine qb5 (i + 1, d', acc ++ [n]) [0, 1, 2, 5] ⟨⟨by simp only; omega, g2, by simp only; omega, by simpa using i4, by simp [i5]⟩, by simp only; omega⟩ rfl (by simp) ?_ ?_ ?_
            all_goals simp only [qwi, hW2, ← qq, qee, qed]
            all_goals simp only [go_sem, ↓reduceIte, Nat.reduceEqDiff, Nat.reduceAdd, Nat.reduceSub, Nat.reduceMul, Nat.reduceLT, Nat.reduceLeDiff, reduceCtorEq, Int.reduceToNat]
            all_goals (try simp only [hab, har, and_self, true_and])
            all_goals (try (rw [qq, q6, qbn]; exact ⟨rfl, rfl⟩))
            all_goals (try (rw [qn (by unfold maxLen; omega)]))
        · rw [if_neg hwt] at i4
          subst i4
          repeat' (first | refine qi ?_ | refine qk ?_ | ((first | refine qm ?_ | refine qj ?_ | refine qr ?_ | refine qh ?_ | refine qg ?_) <;> (try simp (disch := first | omega | (simp only [List.length_set, List.length_append, List.length_cons, List.length_nil]; done) | (simp only [List.length_set, List.length_append, List.length_cons, List.length_nil]; omega)) only [hil, hwn, Nat.mul_one, hget, hln, ne_eq, not_true_eq_false, not_false_eq_true, decide_true, decide_false, Option.isSome_none, Option.isSome_some, Option.getD_none, Option.getD_some, hwt, go_sem, ↓reduceIte, Nat.reduceEqDiff, Nat.reduceAdd, Nat.reduceSub, Nat.reduceMul, Nat.reduceLT, Nat.reduceLeDiff, reduceCtorEq, Int.reduceToNat])) | ((first | ((first | refine qe ?_ ?_ | refine qc ?_ ?_) <;> intro hc <;> (try simp only [hc]) <;> (try simp only [qb, qa, decide_eq_true_eq, decide_eq_false_iff_not, Bool.and_eq_true] at hc)) | refine And.intro (by first | assumption | omega | (have := qf (by assumption); omega) | (unfold qo; omega)) ?_ | simp (disch := omega) only [qd] | simp (disch := omega) only [qn] | refine qb0 i2.ok ?_) <;> (try simp only [go_sem, ↓reduceIte, Nat.reduceEqDiff, Nat.reduceAdd, Nat.reduceSub, Nat.reduceMul, Nat.reduceLT, Nat.reduceLeDiff, reduceCtorEq, Int.reduceToNat])))
          all_goals (simp only [enc, encs])
    · obtain rfl : i = 3 := by omega
      have hil : ¬ (3 : Int) < 3 := by omega
      have ha : acc ≠ [] := fun h => by rw [h] at i5; cases i5
      have hne := qbc ha
      rw [show ifsW.drop 3 = [] from rfl, qex] at i4
      subst i4
      simp only [qbo hne, qbp hne, qbd]
      repeat' (first | refine qi ?_ | refine qk ?_ | ((first | refine qm ?_ | refine qj ?_ | refine qr ?_ | refine qh ?_ | refine qg ?_) <;> (try simp (disch := first | omega | (simp only [List.length_set, List.length_append, List.length_cons, List.length_nil]; done) | (simp only [List.length_set, List.length_append, List.length_cons, List.length_nil]; omega)) only [hil, go_sem, ↓reduceIte, Nat.reduceEqDiff, Nat.reduceAdd, Nat.reduceSub, Nat.reduceMul, Nat.reduceLT, Nat.reduceLeDiff, reduceCtorEq, Int.reduceToNat])) | ((first | ((first | refine qe ?_ ?_ | refine qc ?_ ?_) <;> intro hc <;> (try simp only [hc]) <;> (try simp only [qb, qa, decide_eq_true_eq, decide_eq_false_iff_not, Bool.and_eq_true] at hc)) | refine And.intro (by first | assumption | omega | (have := qf (by assumption); omega) | (unfold qo; omega)) ?_ | simp (disch := omega) only [qd] | simp (disch := omega) only [qn]) <;> (try simp only [go_sem, ↓reduceIte, Nat.reduceEqDiff, Nat.reduceAdd, Nat.reduceSub, Nat.reduceMul, Nat.reduceLT, Nat.reduceLeDiff, reduceCtorEq, Int.reduceToNat])))
      all_goals first | (simp only [enc, encs]; done) | (exfalso; omega) | skip
theorem q35 (c : K) (hg : c.good) (hr : rest c ≤ b) : qbz Try.prog 77 (curE c) (curE (qfb rec c).1) [.ptr 0 0] (resB (qfb rec c).2) := by
  have g1 : (qw c [92]).1.good := (q8 _ _).1 hg
  have g2 : (qw c [108, 101, 116]).1.good := (q8 _ _).1 hg
  have g3 : (qw c [99, 97, 115, 101]).1.good := (q8 _ _).1 hg
  have g4 : (qw c [105, 102]).1.good := (q8 _ _).1 hg
  refine qs c0be 1 (by simp) (by simp) ?_
  unfold qfb
  by_cases t1 : (qw c [92]).2 = true
  · rw [if_pos t1]
    have l1 := qcg t1
    by_cases hk : (qba (qw c [92]).1).kind = 1
    · rw [if_pos hk]
      have hl := qn3 ih [45, 62] (rest (qw c [92]).1 + 1) _ g1 (by omega) (Nat.lt_succ_self _)
      repeat' (first | refine qi ?_ | refine qk ?_ | ((first | refine qbk ?_ | refine q9 ?_ | refine qj ?_ | refine qh ?_ | refine qg ?_) <;> (try simp (disch := first | omega | (simp only [List.length_set, List.length_append, List.length_cons, List.length_nil]; done) | (simp only [List.length_set, List.length_append, List.length_cons, List.length_nil]; omega)) only [t1, hk, ne_eq, not_true_eq_false, decide_false, go_sem, ↓reduceIte, Nat.reduceEqDiff, Nat.reduceAdd, Nat.reduceSub, Nat.reduceMul, Nat.reduceLT, Nat.reduceLeDiff, reduceCtorEq, Int.reduceToNat])) | ((first | ((first | refine qe ?_ ?_ | refine qc ?_ ?_) <;> intro hc <;> (try simp only [hc]) <;> (try simp only [qb, qa, decide_eq_true_eq, decide_eq_false_iff_not, Bool.and_eq_true] at hc)) | refine And.intro (by first | assumption | omega | (have := qf (by assumption); omega) | (unfold qo; omega)) ?_ | simp (disch := omega) only [qd] | simp (disch := omega) only [qn] | refine qbu ?_ | refine qdh hg.ok ?_ | refine qhb hl rfl ?_) <;> (try simp only [go_sem, ↓reduceIte, Nat.reduceEqDiff, Nat.reduceAdd, Nat.reduceSub, Nat.reduceMul, Nat.reduceLT, Nat.reduceLeDiff, reduceCtorEq, Int.reduceToNat])))
    · rw [if_neg hk]
      repeat' (first | refine qi ?_ | refine qk ?_ | ((first | refine qbk ?_ | refine q9 ?_ | refine qj ?_ | refine qh ?_ | refine qg ?_) <;> (try simp (disch := first | omega | (simp only [List.length_set, List.length_append, List.length_cons, List.length_nil]; done) | (simp only [List.length_set, List.length_append, List.length_cons, List.length_nil]; omega)) only [t1, hk, ne_eq, not_false_eq_true, decide_true, go_sem, ↓reduceIte, Nat.reduceEqDiff, Nat.reduceAdd, Nat.reduceSub, Nat.reduceMul, Nat.reduceLT, Nat.reduceLeDiff, reduceCtorEq, Int.reduceToNat])) | ((first | ((first | refine qe ?_ ?_ | refine qc ?_ ?_) <;> intro hc <;> (try simp only [hc]) <;> (try simp only [qb, qa, decide_eq_true_eq, decide_eq_false_iff_not, Bool.and_eq_true] at hc)) | refine And.intro (by first | assumption | omega | (have := qf (by assumption); omega) | (unfold qo; omega)) ?_ | simp (disch := omega) only [qd] | simp (disch := omega) only [qn] | refine qbu ?_ | refine qdh hg.ok ?_ | refine qei ?_) <;> (try simp only [go_sem, ↓reduceIte, Nat.reduceEqDiff, Nat.reduceAdd, Nat.reduceSub, Nat.reduceMul, Nat.reduceLT, Nat.reduceLeDiff, reduceCtorEq, Int.reduceToNat])))
      rw [qf2]
  · have t1f : (qw c [92]).2 = false := by simpa using t1
    have e1 := qc1 t1f
    rw [if_neg t1]
    by_cases t2 : (qw c [108, 101, 116]).2 = true
    · rw [if_pos t2]
      have l2 := qcg t2
      have hl := q8e hm ih (qba c).pos _ g2 (by omega)
      unfold posZ at hl
      repeat' (first | refine qi ?_ | refine qk ?_ | ((first | refine qbk ?_ | refine q9 ?_ | refine qj ?_ | refine qh ?_ | refine qg ?_) <;> (try simp (disch := first | omega | (simp only [List.length_set, List.length_append, List.length_cons, List.length_nil]; done) | (simp only [List.length_set, List.length_append, List.length_cons, List.length_nil]; omega)) only [t1f, e1, t2, go_sem, ↓reduceIte, Nat.reduceEqDiff, Nat.reduceAdd, Nat.reduceSub, Nat.reduceMul, Nat.reduceLT, Nat.reduceLeDiff, reduceCtorEq, Int.reduceToNat])) | ((first | ((first | refine qe ?_ ?_ | refine qc ?_ ?_) <;> intro hc <;> (try simp only [hc]) <;> (try simp only [qb, qa, decide_eq_true_eq, decide_eq_false_iff_not, Bool.and_eq_true] at hc)) | refine And.intro (by first | assumption | omega | (have := qf (by assumption); omega) | (unfold qo; omega)) ?_ | simp (disch := omega) only [qd] | simp (disch := omega) only [qn] | refine qbu ?_ | refine qdh hg.ok ?_ | refine qhb hl rfl ?_) <;> (try simp only [go_sem, ↓reduceIte, Nat.reduceEqDiff, Nat.reduceAdd, Nat.reduceSub, Nat.reduceMul, Nat.reduceLT, Nat.reduceLeDiff, reduceCtorEq, Int.reduceToNat])))
    · have t2f : (qw c [108, 101, 116]).2 = false := by simpa using t2
      have e2 := qc1 t2f
      rw [if_neg t2]
      by_cases t3 : (qw c [99, 97, 115, 101]).2 = true
      · rw [if_pos t3]
        have l2 := qcg t3
        have hl := qwv hm ih (qba c).pos _ g3 (by omega)
        unfold posZ at hl
        repeat' (first | refine qi ?_ | refine qk ?_ | ((first | refine qbk ?_ | refine q9 ?_ | refine qj ?_ | refine qh ?_ | refine qg ?_) <;> (try simp (disch := first | omega | (simp only [List.length_set, List.length_append, List.length_cons, List.length_nil]; done) | (simp only [List.length_set, List.length_append, List.length_cons, List.length_nil]; omega)) only [t1f, e1, t2f, e2, t3, go_sem, ↓reduceIte, Nat.reduceEqDiff, Nat.reduceAdd, Nat.reduceSub, Nat.reduceMul, Nat.reduceLT, Nat.reduceLeDiff, reduceCtorEq, Int.reduceToNat])) | ((first | ((first | refine qe ?_ ?_ | refine qc ?_ ?_) <;> intro hc <;> (try simp only [hc]) <;> (try simp only [qb, qa, decide_eq_true_eq, decide_eq_false_iff_not, Bool.and_eq_true] at hc)) | refine And.intro (by first | assumption | omega | (have := qf (by assumption); omega) | (unfold qo; omega)) ?_ | simp (disch := omega) only [qd] | simp (disch := omega) only [qn] | refine qbu ?_ | refine qdh hg.ok ?_ | refine qhb hl rfl ?_) <;> (try simp only [go_sem, ↓reduceIte, Nat.reduceEqDiff, Nat.reduceAdd, Nat.reduceSub, Nat.reduceMul, Nat.reduceLT, Nat.reduceLeDiff, reduceCtorEq, Int.reduceToNat])))
      · have t3f : (qw c [99, 97, 115, 101]).2 = false := by simpa using t3
        have e3 := qc1 t3f
        rw [if_neg t3]
        by_cases t4 : (qw c [105, 102]).2 = true
        · rw [if_pos t4]
          have l2 := qcg t4
          have hl := q58 hm ih (qba c).pos _ g4 (by omega)
          unfold posZ at hl
          repeat' (first | refine qi ?_ | refine qk ?_ | ((first | refine qbk ?_ | refine q9 ?_ | refine qj ?_ | refine qh ?_ | refine qg ?_) <;> (try simp (disch := first | omega | (simp only [List.length_set, List.length_append, List.length_cons, List.length_nil]; done) | (simp only [List.length_set, List.length_append, List.length_cons, List.length_nil]; omega)) only [t1f, e1, t2f, e2, t3f, e3, t4, go_sem, ↓reduceIte, Nat.reduceEqDiff, Nat.reduceAdd, Nat.reduceSub, Nat.reduceMul, Nat.reduceLT, Nat.reduceLeDiff, reduceCtorEq, Int.reduceToNat])) | ((first | ((first | refine qe ?_ ?_ | refine qc ?_ ?_) <;> intro hc <;> (try simp only [hc]) <;> (try simp only [qb, qa, decide_eq_true_eq, decide_eq_false_iff_not, Bool.and_eq_true] at hc)) | refine And.intro (by first | assumption | omega | (have := qf (by assumption); omega) | (unfold qo; omega)) ?_ | simp (disch := omega) only [qd] | simp (disch := omega) only [qn] | refine qbu ?_ | refine qdh hg.ok ?_ | refine qhb hl rfl ?_) <;> (try simp only [go_sem, ↓reduceIte, Nat.reduceEqDiff, Nat.reduceAdd, Nat.reduceSub, Nat.reduceMul, Nat.reduceLT, Nat.reduceLeDiff, reduceCtorEq, Int.reduceToNat])))
        · have t4f : (qw c [105, 102]).2 = false := by simpa using t4
          have e4 := qc1 t4f
          rw [if_neg t4]
          have hl := q07 hm ih _ hg hr
          repeat' (first | refine qi ?_ | refine qk ?_ | ((first | refine qbk ?_ | refine q9 ?_ | refine qj ?_ | refine qh ?_ | refine qg ?_) <;> (try simp (disch := first | omega | (simp only [List.length_set, List.length_append, List.length_cons, List.length_nil]; done) | (simp only [List.length_set, List.length_append, List.length_cons, List.length_nil]; omega)) only [t1f, e1, t2f, e2, t3f, e3, t4f, e4, go_sem, ↓reduceIte, Nat.reduceEqDiff, Nat.reduceAdd, Nat.reduceSub, Nat.reduceMul, Nat.reduceLT, Nat.reduceLeDiff, reduceCtorEq, Int.reduceToNat])) | ((first | ((first | refine qe ?_ ?_ | refine qc ?_ ?_) <;> intro hc <;> (try simp only [hc]) <;> (try simp only [qb, qa, decide_eq_true_eq, decide_eq_false_iff_not, Bool.and_eq_true] at hc)) | refine And.intro (by first | assumption | omega | (have := qf (by assumption); omega) | (unfold qo; omega)) ?_ | simp (disch := omega) only [qd] | simp (disch := omega) only [qn] | refine qbu ?_ | refine qdh hg.ok ?_ | refine qhb hl rfl ?_) <;> (try simp only [go_sem, ↓reduceIte, Nat.reduceEqDiff, Nat.reduceAdd, Nat.reduceSub, Nat.reduceMul, Nat.reduceLT, Nat.reduceLeDiff, reduceCtorEq, Int.reduceToNat])))
end
end Go.Proofs.Ytfjbmjplnmaclaa
