/- Texts of this proof, joined. -/
import Derived.Test.YtfjbmjplnmaclaaObc

/- expressions: what is read (plain) -/
namespace Go.Proofs.Ytfjbmjplnmaclaa
open Go Go.RowKit Go.V
set_option linter.unusedVariables false
set_option linter.unusedSimpArgs false

def leafE (c : K) : Option N :=
  if (qw c).kind = 1 then some (qho c 21 [])
  else if (qw c).kind = 2 then some (qho c 22 [])
  else if (qw c).kind = 3 then some (.mk 23 (qw c).pos (qw c).num [] [])
  else none
def begE (c : K) : Bool := (leafE c).isSome || isK c [40]
def qbd (rec : K → K × Option N) (c : K) : K × Option N :=
  if (leafE c).isSome = true then (q7 c, leafE c)
  else if isK c [40] = true then
    if (qi c).2 = true then
      if (rec (q7 (qi c).1)).2.isSome = true then
        if (qq (rec (q7 (qi c).1)).1 [41]).2 = true then (qci (qq (rec (q7 (qi c).1)).1 [41]).1, (rec (q7 (qi c).1)).2)
        else ((qq (rec (q7 (qi c).1)).1 [41]).1, none)
      else ((rec (q7 (qi c).1)).1, none)
    else ((qi c).1, none)
  else (qd3 c 5, none)
/-- A tree, and whether it is one. -/
abbrev R3 := K × N × Bool
def ofO (r : K × Option N) : R3 := (r.1, r.2.getD N0, r.2.isSome)
def toO (r : R3) : K × Option N := (r.1, if r.2.2 = true then some r.2.1 else none)
def appN (n k : N) : N := .mk 24 n.pos 0 [] [n, k]
def qet (rec : K → K × Option N) : Nat → K → N → R3
  | 0, c, n => (c, n, false)
  | f + 1, c, n =>
    if begE c = true then
      if (qbd rec c).2.isSome = true then qet rec f (qbd rec c).1 (appN n ((qbd rec c).2.getD N0))
      else ((qbd rec c).1, appN n ((qbd rec c).2.getD N0), false)
    else (c, n, true)
def qf5 (rec : K → K × Option N) (c : K) : R3 :=
  if (qbd rec c).2.isSome = true then qet rec (rest (qbd rec c).1 + 1) (qbd rec c).1 ((qbd rec c).2.getD N0)
  else ((qbd rec c).1, (qbd rec c).2.getD N0, false)
def lamN (t : T) (n : N) : N := .mk 25 t.pos 0 t.text [n]
def qcg (rec : K → K × Option N) (x : List UInt8) : Nat → K → R3
  | 0, c => (c, N0, false)
  | f + 1, c =>
    if (qw c).kind = 1 then ((qcg rec x f (q7 c)).1, lamN (qw c) (qcg rec x f (q7 c)).2.1, (qcg rec x f (q7 c)).2.2)
    else if (qq c x).2 = true then ofO (rec (qq c x).1)
    else ((qq c x).1, N0, false)
def qum (k : Int) (t : T) (n : N) : N := .mk k t.pos 0 t.text [n]
def qb2 (rec : K → K × Option N) (c : K) : K × Option N :=
  if (kindK c 1).2 = true then
    if (qs (kindK c 1).1 [58, 58]).2 = true then
      ((qed (rest (qs (kindK c 1).1 [58, 58]).1 + 2) (qs (kindK c 1).1 [58, 58]).1).1, (qed (rest (qs (kindK c 1).1 [58, 58]).1 + 2) (qs (kindK c 1).1 [58, 58]).1).2.map (qum 32 (qef c 1)))
    else ((qcg rec [61] (rest (kindK c 1).1 + 1) (kindK c 1).1).1, (toO (qcg rec [61] (rest (kindK c 1).1 + 1) (kindK c 1).1)).2.map (qum 31 (qef c 1)))
  else ((kindK c 1).1, none)
/-- Things of a kind with ; between, and } behind them. -/
abbrev RL := K × List N × Bool
def qb5 (rd : K → R3) : Nat → K → List N → RL
  | 0, c, _ => (c, [], false)
  | f + 1, c, acc =>
    if (rd c).2.2 = true then
      if ((qs (rd c).1 [59]).2 && !isK (qs (rd c).1 [59]).1 [125]) = true then qb5 rd f (qs (rd c).1 [59]).1 (acc ++ [(rd c).2.1])
      else ((qq (qs (rd c).1 [59]).1 [125]).1, acc ++ [(rd c).2.1], (qq (qs (rd c).1 [59]).1 [125]).2)
    else ((rd c).1, [], false)
def qbk (rd : K → R3) (c : K) : RL :=
  if (qq c [123]).2 = true then qb5 rd (rest (qq c [123]).1 + 1) (qq c [123]).1 [] else ((qq c [123]).1, [], false)
def posN (p : Int) : N := .mk 0 p 0 [] []
def letC (rec : K → K × Option N) (p : Int) (l : List N) (w : K × Bool) : R3 :=
  if w.2 = true then ((rec w.1).1, .mk 26 p 0 [] (l ++ [(rec w.1).2.getD N0]), (rec w.1).2.isSome) else (w.1, posN p, false)
def letB (rec : K → K × Option N) (p : Int) (l : RL) : R3 :=
  if l.2.2 = true then letC rec p l.2.1 (qq l.1 [105, 110]) else (l.1, posN p, false)
def qg0 (rec : K → K × Option N) (p : Int) (c : K) : R3 := letB rec p (qbk (fun c => ofO (qb2 rec c)) c)
def altN (p e : N) : N := .mk 15 p.pos 0 [] [p, e]
def altC (rec : K → K × Option N) (p : N) (w : K × Bool) : R3 :=
  if w.2 = true then ((rec w.1).1, altN p ((rec w.1).2.getD N0), (rec w.1).2.isSome) else (w.1, p, false)
def altB (rec : K → K × Option N) (r : K × Option N) : R3 :=
  if r.2.isSome = true then altC rec (r.2.getD N0) (qq r.1 [45, 62]) else (r.1, r.2.getD N0, false)
def qd8 (rec : K → K × Option N) (c : K) : R3 := altB rec (qcf (rest c + 2) c)
def qxf (p : Int) (x : N) (l : RL) : R3 := (l.1, .mk 27 p 0 [] (x :: l.2.1), l.2.2)
def qxv (rec : K → K × Option N) (p : Int) (x : N) (w : K × Bool) : R3 :=
  if w.2 = true then qxf p x (qbk (qd8 rec) w.1) else (w.1, posN p, false)
def qe2 (rec : K → K × Option N) (p : Int) (c : K) : R3 :=
  if (rec c).2.isSome = true then qxv rec p ((rec c).2.getD N0) (qq (rec c).1 [111, 102]) else ((rec c).1, posN p, false)
def ifsK (c : K) (w : List UInt8) : K × Bool := if w = [] then (c, true) else qq c w
def qdt (rec : K → K × Option N) (p : Int) : List (List UInt8) → K → List N → R3
  | [], c, acc => (c, .mk 28 p 0 [] acc, true)
  | w :: r, c, acc =>
    if (ifsK c w).2 = true then
      if (rec (ifsK c w).1).2.isSome = true then qdt rec p r (rec (ifsK c w).1).1 (acc ++ [(rec (ifsK c w).1).2.getD N0])
      else ((rec (ifsK c w).1).1, .mk 28 p 0 [] acc, false)
    else ((ifsK c w).1, .mk 28 p 0 [] acc, false)
def ifsW : List (List UInt8) := [[], [116, 104, 101, 110], [101, 108, 115, 101]]
def qdn (rec : K → K × Option N) (c : K) : R3 :=
  if (qs c [92]).2 = true then
    if (qw (qs c [92]).1).kind = 1 then qcg rec [45, 62] (rest (qs c [92]).1 + 1) (qs c [92]).1
    else (qd3 (qs c [92]).1 5, posN (qw c).pos, false)
  else if (qs c [108, 101, 116]).2 = true then qg0 rec (qw c).pos (qs c [108, 101, 116]).1
  else if (qs c [99, 97, 115, 101]).2 = true then qe2 rec (qw c).pos (qs c [99, 97, 115, 101]).1
  else if (qs c [105, 102]).2 = true then qdt rec (qw c).pos ifsW (qs c [105, 102]).1 []
  else qf5 rec c
def qfc : Nat → K → K × Option N
  | 0, c => (c, none)
  | f + 1, c =>
    if (qi c).2 = true then (qci (qdn (qfc f) (qi c).1).1, (toO (qdn (qfc f) (qi c).1)).2)
    else ((qi c).1, none)

theorem qjp {c : K} (h : (leafE c).isSome = true) : (qw c).kind ≠ 0 := by
  unfold leafE at h
  split at h
  · omega
  · split at h
    · omega
    · split at h
      · omega
      · cases h
theorem quk {c : K} (h : begE c = true) : (qw c).kind ≠ 0 := by
  simp only [begE, Bool.or_eq_true] at h
  rcases h with h | h
  · exact qjp h
  · exact qcv h
theorem qcs {c : K} {x : List UInt8} (h : (qs c x).2 = true) : rest (qs c x).1 < rest c := by
  unfold qs at h ⊢
  split at h
  · rename_i h1
    rw [if_pos h1]
    have := qbj (qcv h1)
    simp only; omega
  · cases h
theorem qgm {c : K} {x : List UInt8} (h : (qq c x).2 = true) : rest (qq c x).1 < rest c := by
  unfold qq at h ⊢
  split at h
  · rename_i h1
    rw [if_pos h1]
    have := qbj (qcv h1)
    simp only; omega
  · cases h
theorem qv9 {c : K} (h : (kindK c 1).2 = true) : rest (kindK c 1).1 < rest c := by
  obtain ⟨h1, h2⟩ := qh4 h
  rw [(qxr h).1]
  have := qbj (c := c) (by omega)
  simp only; omega
section
variable {rec : K → K × Option N} (hm : ∀ c, Mon c (rec c).1)
include hm
theorem qdl (c : K) : Mon c (qbd rec c).1 := by
  unfold qbd
  split
  · exact qb1 c
  · split
    · split
      · have h1 := ((q8 c).trans (qb1 _)).trans (hm _)
        split
        · split
          · exact (h1.trans (qr _ _)).trans (qbh _)
          · exact h1.trans (qr _ _)
        · exact h1
      · exact q8 c
    · exact qd9 c 5
theorem qiu {c : K} (h : (qbd rec c).2.isSome = true) : rest (qbd rec c).1 < rest c := by
  unfold qbd at h ⊢
  split at h
  · rename_i hl
    rw [if_pos hl]
    have := qbj (qjp hl)
    simp only; omega
  · rename_i hl
    rw [if_neg hl]
    split at h
    · rename_i hk
      rw [if_pos hk]
      split at h
      · rename_i he
        rw [if_pos he]
        have hp := qbj (c := (qi c).1) (by rw [qc1 he]; exact qcv hk)
        have h0 := (q8 c).2.1
        have h1 := (hm (q7 (qi c).1)).2.1
        split at h
        · rename_i hr
          rw [if_pos hr]
          have h2 := (qr (rec (q7 (qi c).1)).1 [41]).2.1
          split at h
          · rename_i hw
            rw [if_pos hw]
            have h3 := (qbh (qq (rec (q7 (qi c).1)).1 [41]).1).2.1
            simp only; omega
          · cases h
        · cases h
      · cases h
    · cases h
theorem qo0 : ∀ (f : Nat) (c : K) (n : N), Mon c (qet rec f c n).1
  | 0, c, n => Mon.refl c
  | f + 1, c, n => by
    rw [qet]
    split
    · split
      · exact (qdl hm c).trans (qo0 f _ _)
      · exact qdl hm c
    · exact Mon.refl c
theorem q19 (c : K) : Mon c (qf5 rec c).1 := by
  unfold qf5
  split
  · exact (qdl hm c).trans (qo0 hm _ _ _)
  · exact qdl hm c
theorem qh5 (x : List UInt8) : ∀ (f : Nat) (c : K), Mon c (qcg rec x f c).1
  | 0, c => Mon.refl c
  | f + 1, c => by
    rw [qcg]
    split
    · exact (qb1 c).trans (qh5 x f _)
    · split
      · exact (qr c x).trans (hm _)
      · exact qr c x
theorem qgk (c : K) : Mon c (qb2 rec c).1 := by
  unfold qb2
  split
  · split
    · exact ((qb8 c 1).trans (qz _ _)).trans (qkh _ _)
    · exact (qb8 c 1).trans (qh5 hm _ _ _)
  · exact qb8 c 1
theorem qi3 {c : K} (h : (qb2 rec c).2.isSome = true) : rest (qb2 rec c).1 < rest c := by
  unfold qb2 at h ⊢
  split at h
  · rename_i h1
    rw [if_pos h1]
    have h2 := qv9 h1
    split
    · have h3 := ((qz (kindK c 1).1 [58, 58]).trans (qkh (rest (qs (kindK c 1).1 [58, 58]).1 + 2) _)).2.1
      simp only; omega
    · have h3 := (qh5 hm [61] (rest (kindK c 1).1 + 1) (kindK c 1).1).2.1
      simp only; omega
  · cases h
omit hm in
theorem qm1 {rd : K → R3} (hd : ∀ c, Mon c (rd c).1) : ∀ (f : Nat) (c : K) (acc : List N), Mon c (qb5 rd f c acc).1
  | 0, c, acc => Mon.refl c
  | f + 1, c, acc => by
    rw [qb5]
    split
    · split
      · exact ((hd c).trans (qz _ _)).trans (qm1 hd f _ _)
      · exact ((hd c).trans (qz _ _)).trans (qr _ _)
    · exact hd c
omit hm in
theorem qgi {rd : K → R3} (hd : ∀ c, Mon c (rd c).1) (c : K) : Mon c (qbk rd c).1 := by
  unfold qbk
  split
  · exact (qr c _).trans (qm1 hd _ _ _)
  · exact qr c _
theorem q1o (p : Int) (c : K) : Mon c (qg0 rec p c).1 := by
  unfold qg0 letB letC
  have h := qgi (rd := fun c => ofO (qb2 rec c)) (fun c => qgk hm c) c
  split
  · split
    · exact (h.trans (qr _ _)).trans (hm _)
    · exact h.trans (qr _ _)
  · exact h
theorem ql7 (c : K) : Mon c (qd8 rec c).1 := by
  unfold qd8 altB altC
  have h := qe0 (rest c + 2) c
  split
  · split
    · exact (h.trans (qr _ _)).trans (hm _)
    · exact h.trans (qr _ _)
  · exact h
theorem qqk {c : K} (h : (qd8 rec c).2.2 = true) : rest (qd8 rec c).1 < rest c := by
  unfold qd8 altB altC at h ⊢
  have h1 := (qe0 (rest c + 2) c).2.1
  split at h
  · rename_i h2
    rw [if_pos h2]
    split at h
    · rename_i h3
      rw [if_pos h3]
      have h4 := qgm h3
      have h5 := (hm (qq (qcf (rest c + 2) c).1 [45, 62]).1).2.1
      simp only; omega
    · cases h
  · cases h
theorem qxu (p : Int) (c : K) : Mon c (qe2 rec p c).1 := by
  unfold qe2 qxv qxf
  have h := hm c
  split
  · split
    · exact (h.trans (qr _ _)).trans (qgi (fun c => ql7 hm c) _)
    · exact h.trans (qr _ _)
  · exact h
omit hm in
theorem qnt (c : K) (w : List UInt8) : Mon c (ifsK c w).1 := by
  unfold ifsK
  split
  · exact Mon.refl c
  · exact qr c w
theorem qsf (p : Int) : ∀ (l : List (List UInt8)) (c : K) (acc : List N), Mon c (qdt rec p l c acc).1
  | [], c, acc => Mon.refl c
  | w :: r, c, acc => by
    rw [qdt]
    split
    · split
      · exact ((qnt c w).trans (hm _)).trans (qsf p r _ _)
      · exact (qnt c w).trans (hm _)
    · exact qnt c w
theorem qpt (c : K) : Mon c (qdn rec c).1 := by
  unfold qdn
  split
  · split
    · exact (qz c _).trans (qh5 hm _ _ _)
    · exact (qz c _).trans (qd9 _ 5)
  · split
    · exact (qz c _).trans (q1o hm _ _)
    · split
      · exact (qz c _).trans (qxu hm _ _)
      · split
        · exact (qz c _).trans (qsf hm _ _ _ _)
        · exact q19 hm c
end
theorem qjd : ∀ (f : Nat) (c : K), Mon c (qfc f c).1
  | 0, c => Mon.refl c
  | f + 1, c => by
    rw [qfc]
    split
    · exact ((q8 c).trans (qpt (qjd f) _)).trans (qbh _)
    · exact q8 c
set_option maxRecDepth 4000

def resB (r : N × Bool) : AV := .tup [enc r.1, .bool r.2]
attribute [go_sem] resB
theorem qml (k : Nat) (r : N × Bool) : (resB r).bd k = true := by simp only [resB, AV.bd, AV.bds, qmx, Bool.and_true]
theorem qj9 {P : Program} {f : FuncId} {c c' : K} {L : List Ent} {args : List AV} {r : N × Bool} {Q : List Ent → VO → Prop} (h : qcc P f (curE c) (curE c') args (resB r)) (ha : AV.bds 1 args = true) (hq : Q (curE c' :: L) (.val (resB r))) : VApp P (curE c :: L) (.fn f [] []) args Q :=
  qb9 h (qbe _ _) (qbe _ _) ha (qml _ _) fun _ => hq
theorem q9w (c : K) : qcc Try.prog 93 (curE c) (curE c) [.ptr 0 0] (resP (leafE c)) := by
  refine qx c0l 1 (by simp) (by simp) ?_
  repeat' (first | refine qj ?_ | refine ql ?_ | ((first | refine qn ?_ | refine qk ?_ | refine qh ?_ | refine qg ?_ | refine qb4 ?_ | refine a_Is ?_ | ((first | refine qe ?_ ?_ | refine qd ?_ ?_) <;> intro hc <;> (try simp only [hc]) <;> (try simp only [qb, qa, decide_eq_true_eq, decide_eq_false_iff_not, Bool.and_eq_true] at hc)) | refine And.intro (by first | assumption | omega | (have := qf (by assumption); omega) | (unfold qp; omega)) ?_ | simp (disch := omega) only [qc] | simp (disch := omega) only [qo]) <;> (try simp only [go_sem, ↓reduceIte, Nat.reduceEqDiff, Nat.reduceAdd, Nat.reduceSub, Nat.reduceMul, Nat.reduceLT, Nat.reduceLeDiff, reduceCtorEq, Int.reduceToNat])))
  all_goals (unfold leafE qho; simp_all [enc, encs, N0])
theorem q6s {c : K} {L : List Ent} {Q : List Ent → VO → Prop} (hq : Q (curE c :: L) (.val (resP (leafE c)))) : VApp Try.prog (curE c :: L) (.fn 93 [] []) [.ptr 0 0] Q := qcp (q9w c) rfl hq
section
variable {rec : K → K × Option N} {b : Nat} (hm : ∀ c, Mon c (rec c).1) (ih : ∀ c, c.good → rest c < b → qcc Try.prog 66 (curE c) (curE (rec c).1) [.ptr 0 0] (resP (rec c).2))
include hm ih
theorem q0c (c : K) (hg : c.good) (hr : rest c ≤ b) : qcc Try.prog 92 (curE c) (curE (qbd rec c).1) [.ptr 0 0] (resP (qbd rec c).2) := by
  have g1 : (qi c).1.good := (q8 c).1 hg
  have g2 : (q7 (qi c).1).good := (qb1 _).1 g1
  have g3 : (rec (q7 (qi c).1)).1.good := (hm _).1 g2
  have g4 : (qq (rec (q7 (qi c).1)).1 [41]).1.good := (qr _ _).1 g3
  have hrr : isK c [40] = true → (qi c).2 = true → rest (q7 (qi c).1) < b := fun h1 h2 => by
    have := qbj (c := (qi c).1) (by rw [qc1 h2]; exact qcv h1)
    have := (q8 c).2.1
    omega
  refine qx c0m 1 (by simp) (by simp) ?_
  repeat' (first | refine qj ?_ | ((first | refine qn ?_ | refine qk ?_ | refine qh ?_ | refine qg ?_ | refine q6s ?_ | refine a_Is ?_ | refine qse ?_ | refine qhh ?_ | refine qjb hg.ok ?_ | refine qjb g1.ok ?_ | refine qcp (ih _ g2 (hrr (by assumption) (by assumption))) rfl ?_ | refine qce g3.ok ?_ | refine qfi g4.2.2 ?_ | ((first | refine qe ?_ ?_ | refine qd ?_ ?_) <;> intro hc <;> (try simp only [hc]) <;> (try simp only [qb, qa, decide_eq_true_eq, decide_eq_false_iff_not, Bool.and_eq_true] at hc)) | refine And.intro (by first | assumption | omega | (have := qf (by assumption); omega) | (unfold qp; omega)) ?_ | simp (disch := omega) only [qc] | simp (disch := omega) only [qo]) <;> (try simp only [go_sem, ↓reduceIte, Nat.reduceEqDiff, Nat.reduceAdd, Nat.reduceSub, Nat.reduceMul, Nat.reduceLT, Nat.reduceLeDiff, reduceCtorEq, Int.reduceToNat])))
  all_goals (unfold qbd; simp only [*, qd2, Int.reduceEq, if_true, if_false, reduceIte, Bool.false_eq_true, Option.getD_none, Option.getD_some, Option.isSome_none, Option.isSome_some, and_self, true_and, and_true]; try rfl)
omit hm ih
/-- A variable that holds a tree: its row may be a literal. -/
def q5y (fl : Bool) (n : N) : Ent := .blk [.int .i64 n.kind, .int .i64 n.pos, .int .i64 n.num, .str n.text, if fl = true then .lit 5 (encs n.kids) else .sl 5 (encs n.kids)]
theorem qbcn {P : Program} {fr : Option Nat} {k m : Nat} {a : IC} {Q : VE → AF → List Ent → Prop} {af : AF} {A B : Ent} {L : List Ent} {fl : Bool} {n : N} (h : VI P fr k m a Q af (A :: B :: .blk (enc n).cells :: L)) : VI P fr k m a Q af (A :: B :: q5y fl n :: L) := by
  cases n
  cases fl with
  | false => exact h
  | true =>
    refine q4i 2 4 (.sl 5) (by rfl) ?_
    simp only [List.getD_cons_succ, List.getD_cons_zero, if_true, qwj, List.set_cons_succ, List.set_cons_zero]
    exact h
include hm ih
def q61 (x : Bool × Nat × K × N × Bool) : AF × List Ent :=
  (⟨[(0, .ptr 0 0), (2, .ptr 1 0), (4, .ptr 2 0), (5, .bool x.2.2.2.2)], []⟩, [curE x.2.2.1, .blk [.int .i64 0, .int .i64 0, .int .i64 0, .str [], .nils], q5y x.1 x.2.2.2.1])
theorem q85 (c : K) (hg : c.good) (hr : rest c ≤ b) : qcc Try.prog 85 (curE c) (curE (qf5 rec c).1) [.ptr 0 0] (resB (qf5 rec c).2) := by
  refine qx c0n 1 (by simp) (by simp) ?_
  have g0 : (qbd rec c).1.good := (qdl hm c).1 hg
  have hr0 : rest (qbd rec c).1 ≤ b := by have := (qdl hm c).2.1; omega
  generalize htg : qf5 rec c = tg
  repeat' (first | refine qj ?_ | refine ql ?_ | ((first | refine qn ?_ | refine qk ?_ | refine qu ?_ | refine qh ?_ | refine qg ?_ | refine qcp (q0c hm ih _ hg hr) rfl ?_ | ((first | refine qe ?_ ?_ | refine qd ?_ ?_) <;> intro hc <;> (try simp only [hc]) <;> (try simp only [qb, qa, decide_eq_true_eq, decide_eq_false_iff_not, Bool.and_eq_true] at hc)) | refine And.intro (by first | assumption | omega | (have := qf (by assumption); omega) | (unfold qp; omega)) ?_ | simp (disch := omega) only [qc] | simp (disch := omega) only [qo]) <;> (try simp only [go_sem, ↓reduceIte, Nat.reduceEqDiff, Nat.reduceAdd, Nat.reduceSub, Nat.reduceMul, Nat.reduceLT, Nat.reduceLeDiff, reduceCtorEq, Int.reduceToNat])))
  refine qcy (S := Bool × Nat × K × N × Bool) (fun x => x.2.2.1.good ∧ rest x.2.2.1 ≤ b ∧ (x.2.2.2.2 = true → qet rec x.2.1 x.2.2.1 x.2.2.2.1 = tg ∧ rest x.2.2.1 < x.2.1) ∧ (x.2.2.2.2 = false → tg = (x.2.2.1, x.2.2.2.1, false)))
    q61 (fun x => if x.2.2.2.2 = true then rest x.2.2.1 + 1 else 0) ?_ ?_
  · refine qcd (false, rest (qbd rec c).1 + 1, (qbd rec c).1, (qbd rec c).2.getD N0, (qbd rec c).2.isSome) [0, 1, 2] ⟨g0, hr0, fun h => ⟨?_, Nat.lt_succ_self _⟩, fun h => ?_⟩ rfl (by simp) ?_ ?_ ?_
    · simp only at h; rw [← htg, qf5, if_pos h]
    · simp only at h; rw [← htg, qf5, if_neg (by rw [h]; simp)]
    all_goals simp only [q61, q5y]
    all_goals simp only [go_sem, ↓reduceIte, Nat.reduceEqDiff, Nat.reduceAdd, Nat.reduceSub, Nat.reduceMul, Nat.reduceLT, Nat.reduceLeDiff, reduceCtorEq, Int.reduceToNat]
  · rintro ⟨fl, fu, d, n, ok⟩ ⟨i1, i2, i3, i4⟩
    simp only at i1 i2 i3 i4
    unfold q61
    refine qbcn ?_
    cases ok with
    | false =>
      have i4 := i4 rfl
      subst i4
      repeat' (first | refine qj ?_ | refine ql ?_ | ((first | refine qn ?_ | refine qk ?_ | refine qu ?_ | refine qh ?_ | refine qg ?_ | ((first | refine qe ?_ ?_ | refine qd ?_ ?_) <;> intro hc <;> (try simp only [hc]) <;> (try simp only [qb, qa, decide_eq_true_eq, decide_eq_false_iff_not, Bool.and_eq_true] at hc)) | refine And.intro (by first | assumption | omega | (have := qf (by assumption); omega) | (unfold qp; omega)) ?_ | simp (disch := omega) only [qc] | simp (disch := omega) only [qo]) <;> (try simp only [go_sem, ↓reduceIte, Nat.reduceEqDiff, Nat.reduceAdd, Nat.reduceSub, Nat.reduceMul, Nat.reduceLT, Nat.reduceLeDiff, reduceCtorEq, Int.reduceToNat])))
    | true =>
      obtain ⟨i3, i5⟩ := i3 rfl
      clear i4
      obtain ⟨fu, rfl⟩ : ∃ k, fu = k + 1 := ⟨fu - 1, by omega⟩
      rw [qet] at i3
      have j1 : (qbd rec d).1.good := (qdl hm d).1 i1
      have j2 : rest (qbd rec d).1 ≤ rest d := (qdl hm d).2.1
      have key : begE d = true → (((qbd rec d).2.isSome = true → qet rec fu (qbd rec d).1 (appN n ((qbd rec d).2.getD N0)) = tg ∧ rest (qbd rec d).1 < fu) ∧ ((qbd rec d).2.isSome = false → tg = ((qbd rec d).1, appN n ((qbd rec d).2.getD N0), false))) ∧
          (if (qbd rec d).2.isSome = true then rest (qbd rec d).1 + 1 else 0) < rest d + 1 := fun hb => by
        rw [if_pos hb] at i3
        refine ⟨⟨fun h => ?_, fun h => ?_⟩, ?_⟩
        · rw [if_pos h] at i3
          have := qiu hm h
          exact ⟨i3, by omega⟩
        · rw [if_neg (by rw [h]; simp)] at i3
          exact i3.symm
        · split
          · rename_i h
            have := qiu hm h
            omega
          · omega
      have e1 : (leafE d).isSome = true → begE d = true := fun h => by rw [begE, h]; rfl
      have e2 : isK d [40] = true → begE d = true := fun h => by rw [begE, h, Bool.or_true]
      repeat' (first | refine qj ?_ | refine ql ?_ | ((first | refine qn ?_ | refine qk ?_ | refine qu ?_ | refine qh ?_ | refine qg ?_ | refine q6s ?_ | refine a_Is ?_ | refine qcp (q0c hm ih _ i1 i2) rfl ?_ | ((first | refine qe ?_ ?_ | refine qd ?_ ?_) <;> intro hc <;> (try simp only [hc]) <;> (try simp only [qb, qa, decide_eq_true_eq, decide_eq_false_iff_not, Bool.and_eq_true] at hc)) | refine And.intro (by first | assumption | omega | (have := qf (by assumption); omega) | (unfold qp; omega)) ?_ | simp (disch := omega) only [qc] | simp (disch := omega) only [qo]) <;> (try simp only [go_sem, ↓reduceIte, Nat.reduceEqDiff, Nat.reduceAdd, Nat.reduceSub, Nat.reduceMul, Nat.reduceLT, Nat.reduceLeDiff, reduceCtorEq, Int.reduceToNat])))
      · have hb : ¬ begE d = true := by rw [begE]; simp_all
        rw [if_neg hb] at i3
        subst i3
        exact ⟨rfl, rfl⟩
      · obtain ⟨k1, k2⟩ := key (e2 (by assumption))
        refine qcd (true, fu, (qbd rec d).1, appN n ((qbd rec d).2.getD N0), (qbd rec d).2.isSome) [0, 1, 2] ⟨⟨j1, by simp only; omega, k1⟩, by simpa using k2⟩ rfl (by simp) ?_ ?_ ?_
        all_goals simp only [q61, q5y, appN, encs, N.kind, N.pos, N.num, N.text, N.kids]
        all_goals simp only [go_sem, ↓reduceIte, Nat.reduceEqDiff, Nat.reduceAdd, Nat.reduceSub, Nat.reduceMul, Nat.reduceLT, Nat.reduceLeDiff, reduceCtorEq, Int.reduceToNat]
      · obtain ⟨k1, k2⟩ := key (e1 (by assumption))
        refine qcd (true, fu, (qbd rec d).1, appN n ((qbd rec d).2.getD N0), (qbd rec d).2.isSome) [0, 1, 2] ⟨⟨j1, by simp only; omega, k1⟩, by simpa using k2⟩ rfl (by simp) ?_ ?_ ?_
        all_goals simp only [q61, q5y, appN, encs, N.kind, N.pos, N.num, N.text, N.kids]
        all_goals simp only [go_sem, ↓reduceIte, Nat.reduceEqDiff, Nat.reduceAdd, Nat.reduceSub, Nat.reduceMul, Nat.reduceLT, Nat.reduceLeDiff, reduceCtorEq, Int.reduceToNat]
end
set_option maxRecDepth 4000

theorem qxt (t : T) (n : N) : AV.agg [.int .i64 25, .int .i64 t.pos, .int .i64 0, .str t.text, .sl 5 [enc n]] = enc (lamN t n) := by simp only [lamN, enc, encs]
theorem qjm (k : Int) (t : T) (n : N) : AV.agg [.int .i64 k, .int .i64 t.pos, .int .i64 0, .str t.text, .sl 5 [enc n]] = enc (qum k t n) := by simp only [qum, enc, encs]
section
variable {rec : K → K × Option N} {b : Nat} (ih : ∀ c, c.good → rest c < b → qcc Try.prog 66 (curE c) (curE (rec c).1) [.ptr 0 0] (resP (rec c).2))
include ih
theorem qtw (x : List UInt8) : ∀ (f : Nat) (c : K), c.good → rest c ≤ b → rest c < f → qcc Try.prog 46 (curE c) (curE (qcg rec x f c).1) [.ptr 0 0, .str x] (resB (qcg rec x f c).2)
  | 0, c => fun _ _ h => absurd h (by omega)
  | f + 1, c => fun hg hb hf => by
    have g1 : (q7 c).good := (qb1 c).1 hg
    have g2 : (qq c x).1.good := (qr c x).1 hg
    refine qx c0j 1 (by simp) (by simp) ?_
    by_cases hk : (qw c).kind = 1
    · have hrn := qbj (c := c) (by omega)
      have hl := qtw x f (q7 c) g1 (by omega) (by omega)
      have hpa : qcg rec x (f + 1) c = ((qcg rec x f (q7 c)).1, lamN (qw c) (qcg rec x f (q7 c)).2.1, (qcg rec x f (q7 c)).2.2) := by rw [qcg, if_pos hk]
      rw [hpa]
      clear hpa
      generalize qcg rec x f (q7 c) = r at *
      repeat' (first | refine qj ?_ | ((first | refine qn ?_ | refine qk ?_ | refine qh ?_ | refine qg ?_) <;> (try simp (disch := first | omega | (simp only [List.length_set, List.length_append, List.length_cons, List.length_nil]; done) | (simp only [List.length_set, List.length_append, List.length_cons, List.length_nil]; omega)) only [hk, ne_eq, not_true_eq_false, decide_false, go_sem, ↓reduceIte, Nat.reduceEqDiff, Nat.reduceAdd, Nat.reduceSub, Nat.reduceMul, Nat.reduceLT, Nat.reduceLeDiff, reduceCtorEq, Int.reduceToNat])) | ((first | ((first | refine qe ?_ ?_ | refine qd ?_ ?_) <;> intro hc <;> (try simp only [hc]) <;> (try simp only [qb, qa, decide_eq_true_eq, decide_eq_false_iff_not, Bool.and_eq_true] at hc)) | refine And.intro (by first | assumption | omega | (have := qf (by assumption); omega) | (unfold qp; omega)) ?_ | simp (disch := omega) only [qc] | simp (disch := omega) only [qo] | refine qb4 ?_ | refine qjb hg.ok ?_ | refine qj9 hl rfl ?_) <;> (try simp only [go_sem, ↓reduceIte, Nat.reduceEqDiff, Nat.reduceAdd, Nat.reduceSub, Nat.reduceMul, Nat.reduceLT, Nat.reduceLeDiff, reduceCtorEq, Int.reduceToNat])))
      all_goals first | (rw [qxt]; done) | (rw [qxt]; rfl) | (rw [qxt]; exact ⟨rfl, rfl⟩)
    · by_cases hw : (qq c x).2 = true
      · have hlt := qgm hw
        have hpa : qcg rec x (f + 1) c = ofO (rec (qq c x).1) := by rw [qcg, if_neg hk, if_pos hw]
        rw [hpa, ofO]
        repeat' (first | refine qj ?_ | ((first | refine qn ?_ | refine qk ?_ | refine qh ?_ | refine qg ?_) <;> (try simp (disch := first | omega | (simp only [List.length_set, List.length_append, List.length_cons, List.length_nil]; done) | (simp only [List.length_set, List.length_append, List.length_cons, List.length_nil]; omega)) only [hk, hw, ne_eq, not_false_eq_true, decide_true, go_sem, ↓reduceIte, Nat.reduceEqDiff, Nat.reduceAdd, Nat.reduceSub, Nat.reduceMul, Nat.reduceLT, Nat.reduceLeDiff, reduceCtorEq, Int.reduceToNat])) | ((first | ((first | refine qe ?_ ?_ | refine qd ?_ ?_) <;> intro hc <;> (try simp only [hc]) <;> (try simp only [qb, qa, decide_eq_true_eq, decide_eq_false_iff_not, Bool.and_eq_true] at hc)) | refine And.intro (by first | assumption | omega | (have := qf (by assumption); omega) | (unfold qp; omega)) ?_ | simp (disch := omega) only [qc] | simp (disch := omega) only [qo] | refine qb4 ?_ | refine qce hg.ok ?_ | refine qcp (ih _ g2 (by omega)) rfl ?_) <;> (try simp only [go_sem, ↓reduceIte, Nat.reduceEqDiff, Nat.reduceAdd, Nat.reduceSub, Nat.reduceMul, Nat.reduceLT, Nat.reduceLeDiff, reduceCtorEq, Int.reduceToNat])))
      · have hpa : qcg rec x (f + 1) c = ((qq c x).1, N0, false) := by rw [qcg, if_neg hk, if_neg hw]
        rw [hpa]
        repeat' (first | refine qj ?_ | ((first | refine qn ?_ | refine qk ?_ | refine qh ?_ | refine qg ?_) <;> (try simp (disch := first | omega | (simp only [List.length_set, List.length_append, List.length_cons, List.length_nil]; done) | (simp only [List.length_set, List.length_append, List.length_cons, List.length_nil]; omega)) only [hk, hw, ne_eq, not_false_eq_true, decide_true, go_sem, ↓reduceIte, Nat.reduceEqDiff, Nat.reduceAdd, Nat.reduceSub, Nat.reduceMul, Nat.reduceLT, Nat.reduceLeDiff, reduceCtorEq, Int.reduceToNat])) | ((first | ((first | refine qe ?_ ?_ | refine qd ?_ ?_) <;> intro hc <;> (try simp only [hc]) <;> (try simp only [qb, qa, decide_eq_true_eq, decide_eq_false_iff_not, Bool.and_eq_true] at hc)) | refine And.intro (by first | assumption | omega | (have := qf (by assumption); omega) | (unfold qp; omega)) ?_ | simp (disch := omega) only [qc] | simp (disch := omega) only [qo] | refine qb4 ?_ | refine qce hg.ok ?_) <;> (try simp only [go_sem, ↓reduceIte, Nat.reduceEqDiff, Nat.reduceAdd, Nat.reduceSub, Nat.reduceMul, Nat.reduceLT, Nat.reduceLeDiff, reduceCtorEq, Int.reduceToNat])))
        all_goals first | (rw [qd2]; done) | (rw [qd2]; rfl) | (rw [qd2]; exact ⟨rfl, rfl⟩)
theorem qry (c : K) (hg : c.good) (hr : rest c ≤ b) : qcc Try.prog 29 (curE c) (curE (qb2 rec c).1) [.ptr 0 0] (resP (qb2 rec c).2) := by
  have g1 : (kindK c 1).1.good := (qb8 c 1).1 hg
  have hr1 : rest (kindK c 1).1 ≤ b := by have := (qb8 c 1).2.1; omega
  have g2 : (qs (kindK c 1).1 [58, 58]).1.good := (qz _ _).1 g1
  have hl := qtw ih [61] (rest (kindK c 1).1 + 1) (kindK c 1).1 g1 hr1 (Nat.lt_succ_self _)
  have hq := q2p (rest (qs (kindK c 1).1 [58, 58]).1 + 2) (qs (kindK c 1).1 [58, 58]).1 g2 (by omega)
  have ht0 : (qs (kindK c 1).1 [58, 58]).2 = false → (qs (kindK c 1).1 [58, 58]).1 = (kindK c 1).1 := fun h => qc8 h
  refine qx c0k 1 (by simp) (by simp) ?_
  unfold qb2
  generalize qcg rec [61] (rest (kindK c 1).1 + 1) (kindK c 1).1 = r at *
  generalize qed (rest (qs (kindK c 1).1 [58, 58]).1 + 2) (qs (kindK c 1).1 [58, 58]).1 = q at *
  by_cases hk : (kindK c 1).2 = true
  · rw [if_pos hk]
    by_cases ht : (qs (kindK c 1).1 [58, 58]).2 = true
    · rw [if_pos ht]
      cases ho : q.2 with
      | none =>
        rw [ho] at hq
        repeat' (first | refine qj ?_ | ((first | refine qn ?_ | refine qk ?_ | refine qh ?_ | refine qg ?_) <;> (try simp (disch := first | omega | (simp only [List.length_set, List.length_append, List.length_cons, List.length_nil]; done) | (simp only [List.length_set, List.length_append, List.length_cons, List.length_nil]; omega)) only [hk, ht, Option.isSome_none, Option.getD_none, go_sem, ↓reduceIte, Nat.reduceEqDiff, Nat.reduceAdd, Nat.reduceSub, Nat.reduceMul, Nat.reduceLT, Nat.reduceLeDiff, reduceCtorEq, Int.reduceToNat])) | ((first | ((first | refine qe ?_ ?_ | refine qd ?_ ?_) <;> intro hc <;> (try simp only [hc]) <;> (try simp only [qb, qa, decide_eq_true_eq, decide_eq_false_iff_not, Bool.and_eq_true] at hc)) | refine And.intro (by first | assumption | omega | (have := qf (by assumption); omega) | (unfold qp; omega)) ?_ | simp (disch := omega) only [qc] | simp (disch := omega) only [qo] | refine qc5 hg.ok ?_ | refine qd5 g1.ok ?_ | refine qcp hq rfl ?_) <;> (try simp only [go_sem, ↓reduceIte, Nat.reduceEqDiff, Nat.reduceAdd, Nat.reduceSub, Nat.reduceMul, Nat.reduceLT, Nat.reduceLeDiff, reduceCtorEq, Int.reduceToNat])))
        all_goals first | (rw [qd2]; done) | (rw [qd2]; rfl) | (rw [qd2]; exact ⟨rfl, rfl⟩)
      | some n =>
        rw [ho] at hq
        repeat' (first | refine qj ?_ | ((first | refine qn ?_ | refine qk ?_ | refine qh ?_ | refine qg ?_) <;> (try simp (disch := first | omega | (simp only [List.length_set, List.length_append, List.length_cons, List.length_nil]; done) | (simp only [List.length_set, List.length_append, List.length_cons, List.length_nil]; omega)) only [hk, ht, Option.isSome_some, Option.getD_some, go_sem, ↓reduceIte, Nat.reduceEqDiff, Nat.reduceAdd, Nat.reduceSub, Nat.reduceMul, Nat.reduceLT, Nat.reduceLeDiff, reduceCtorEq, Int.reduceToNat])) | ((first | ((first | refine qe ?_ ?_ | refine qd ?_ ?_) <;> intro hc <;> (try simp only [hc]) <;> (try simp only [qb, qa, decide_eq_true_eq, decide_eq_false_iff_not, Bool.and_eq_true] at hc)) | refine And.intro (by first | assumption | omega | (have := qf (by assumption); omega) | (unfold qp; omega)) ?_ | simp (disch := omega) only [qc] | simp (disch := omega) only [qo] | refine qc5 hg.ok ?_ | refine qd5 g1.ok ?_ | refine qcp hq rfl ?_) <;> (try simp only [go_sem, ↓reduceIte, Nat.reduceEqDiff, Nat.reduceAdd, Nat.reduceSub, Nat.reduceMul, Nat.reduceLT, Nat.reduceLeDiff, reduceCtorEq, Int.reduceToNat])))
        all_goals first | (rw [qjm]; done) | (rw [qjm]; rfl) | (rw [qjm]; exact ⟨rfl, rfl⟩)
    · rw [if_neg ht]
      have ht : (qs (kindK c 1).1 [58, 58]).2 = false := by simpa using ht
      have ht0 := ht0 ht
      obtain ⟨d, n, ok⟩ := r
      simp only [toO] at hl ⊢
      rw [← ht0] at hl
      cases ok with
      | false =>
        repeat' (first | refine qj ?_ | ((first | refine qn ?_ | refine qk ?_ | refine qh ?_ | refine qg ?_) <;> (try simp (disch := first | omega | (simp only [List.length_set, List.length_append, List.length_cons, List.length_nil]; done) | (simp only [List.length_set, List.length_append, List.length_cons, List.length_nil]; omega)) only [hk, ht, go_sem, ↓reduceIte, Nat.reduceEqDiff, Nat.reduceAdd, Nat.reduceSub, Nat.reduceMul, Nat.reduceLT, Nat.reduceLeDiff, reduceCtorEq, Int.reduceToNat])) | ((first | ((first | refine qe ?_ ?_ | refine qd ?_ ?_) <;> intro hc <;> (try simp only [hc]) <;> (try simp only [qb, qa, decide_eq_true_eq, decide_eq_false_iff_not, Bool.and_eq_true] at hc)) | refine And.intro (by first | assumption | omega | (have := qf (by assumption); omega) | (unfold qp; omega)) ?_ | simp (disch := omega) only [qc] | simp (disch := omega) only [qo] | refine qc5 hg.ok ?_ | refine qd5 g1.ok ?_ | refine qj9 hl rfl ?_) <;> (try simp only [go_sem, ↓reduceIte, Nat.reduceEqDiff, Nat.reduceAdd, Nat.reduceSub, Nat.reduceMul, Nat.reduceLT, Nat.reduceLeDiff, reduceCtorEq, Int.reduceToNat])))
        all_goals first | (rw [qd2]; done) | (rw [qd2]; rfl) | (rw [qd2]; exact ⟨rfl, rfl⟩)
      | true =>
        repeat' (first | refine qj ?_ | ((first | refine qn ?_ | refine qk ?_ | refine qh ?_ | refine qg ?_) <;> (try simp (disch := first | omega | (simp only [List.length_set, List.length_append, List.length_cons, List.length_nil]; done) | (simp only [List.length_set, List.length_append, List.length_cons, List.length_nil]; omega)) only [hk, ht, go_sem, ↓reduceIte, Nat.reduceEqDiff, Nat.reduceAdd, Nat.reduceSub, Nat.reduceMul, Nat.reduceLT, Nat.reduceLeDiff, reduceCtorEq, Int.reduceToNat])) | ((first | ((first | refine qe ?_ ?_ | refine qd ?_ ?_) <;> intro hc <;> (try simp only [hc]) <;> (try simp only [qb, qa, decide_eq_true_eq, decide_eq_false_iff_not, Bool.and_eq_true] at hc)) | refine And.intro (by first | assumption | omega | (have := qf (by assumption); omega) | (unfold qp; omega)) ?_ | simp (disch := omega) only [qc] | simp (disch := omega) only [qo] | refine qc5 hg.ok ?_ | refine qd5 g1.ok ?_ | refine qj9 hl rfl ?_) <;> (try simp only [go_sem, ↓reduceIte, Nat.reduceEqDiff, Nat.reduceAdd, Nat.reduceSub, Nat.reduceMul, Nat.reduceLT, Nat.reduceLeDiff, reduceCtorEq, Int.reduceToNat])))
        all_goals first | (rw [qjm]; done) | (rw [qjm]; rfl) | (rw [qjm]; exact ⟨rfl, rfl⟩)
  · rw [if_neg hk]
    repeat' (first | refine qj ?_ | ((first | refine qn ?_ | refine qk ?_ | refine qh ?_ | refine qg ?_) <;> (try simp (disch := first | omega | (simp only [List.length_set, List.length_append, List.length_cons, List.length_nil]; done) | (simp only [List.length_set, List.length_append, List.length_cons, List.length_nil]; omega)) only [hk, go_sem, ↓reduceIte, Nat.reduceEqDiff, Nat.reduceAdd, Nat.reduceSub, Nat.reduceMul, Nat.reduceLT, Nat.reduceLeDiff, reduceCtorEq, Int.reduceToNat])) | ((first | ((first | refine qe ?_ ?_ | refine qd ?_ ?_) <;> intro hc <;> (try simp only [hc]) <;> (try simp only [qb, qa, decide_eq_true_eq, decide_eq_false_iff_not, Bool.and_eq_true] at hc)) | refine And.intro (by first | assumption | omega | (have := qf (by assumption); omega) | (unfold qp; omega)) ?_ | simp (disch := omega) only [qc] | simp (disch := omega) only [qo] | refine qc5 hg.ok ?_) <;> (try simp only [go_sem, ↓reduceIte, Nat.reduceEqDiff, Nat.reduceAdd, Nat.reduceSub, Nat.reduceMul, Nat.reduceLT, Nat.reduceLeDiff, reduceCtorEq, Int.reduceToNat])))
    all_goals first | (rw [qd2]; done) | (rw [qd2]; rfl) | (rw [qd2]; exact ⟨rfl, rfl⟩)
end
set_option maxRecDepth 4000

/-- A function over the variable that holds the cursor. -/
def VClo (g : FuncId) (c c' : K) (r : N × Bool) : Prop := VCalls Try.prog g [curE c, .blk [.ptr 0 0]] [.ptr 1 0] fun H' o => H' = [curE c', .blk [.ptr 0 0]] ∧ o = .val (resB r)
theorem qjz (c : K) : [curE c, .blk [.ptr 0 0]].all (Ent.bd 2) = true := by
  simp only [List.all_cons, List.all_nil, qbe, Bool.true_and, Bool.and_true]; rfl
theorem qtl {g : FuncId} {c c' : K} {r : N × Bool} {L : List Ent} {Q : List Ent → VO → Prop} (h : VClo g c c' r) (hq : Q (curE c' :: .blk [.ptr 0 0] :: L) (.val (resB r))) : VApp Try.prog (curE c :: .blk [.ptr 0 0] :: L) (.fn g [] [.ptr 1 0]) [] Q :=
  qcb (first := []) (caps := [.ptr 1 0]) (by
    simp only [List.nil_append]
    refine qc6 (H0 := [curE c, .blk [.ptr 0 0]]) (L := L) h (qjz c) rfl ?_
    rintro H1 o ⟨rfl, rfl⟩
    exact ⟨rfl, qjz c', qml _ _, hq⟩)
def qny (rd : K → R3) (g : FuncId) (c : K) : Prop := VCalls Try.prog 88 [curE c, .blk [.ptr 0 0]] [.ptr 0 0, .fn g [] [.ptr 1 0]] fun H' o =>
  H' = curE (qbk rd c).1 :: .blk [.ptr 0 0] :: accE 5 (encs (qbk rd c).2.1) ∧ o = .val (.tup [accV 2 (encs (qbk rd c).2.1), .bool (qbk rd c).2.2])
def qv4 (g : FuncId) (x : Nat × K × List N) : AF × List Ent :=
  (⟨[(0, .ptr 0 0), (1, .fn g [] [.ptr 1 0]), (6, accV 2 (encs x.2.2))], []⟩, curE x.2.1 :: .blk [.ptr 0 0] :: accE 5 (encs x.2.2))
theorem qyq {rd : K → R3} {g : FuncId} {b : Nat} (hd : ∀ c, Mon c (rd c).1) (hl : ∀ c, (rd c).2.2 = true → rest (rd c).1 < rest c) (ih : ∀ c, c.good → rest c ≤ b → VClo g c (rd c).1 (rd c).2) (c : K) (hg : c.good) (hr : rest c ≤ b) : qny rd g c := by
  unfold qny
  obtain ⟨kk, hk1, hk2, hk0⟩ : ∃ k : Nat, ((qbk rd c).2.1 = [] → k = 2) ∧ ((qbk rd c).2.1 ≠ [] → k = 3) ∧ 2 ≤ k := by
    by_cases h : (qbk rd c).2.1 = []
    · exact ⟨2, fun _ => rfl, fun g => absurd h g, by omega⟩
    · exact ⟨3, fun g => absurd g h, fun _ => rfl, by omega⟩
  refine qdm c0i kk (by simpa using hk0) (by simp) ?_
  have g1 : (qq c [123]).1.good := (qr c _).1 hg
  have hr1 : rest (qq c [123]).1 ≤ b := by have := (qr c [123]).2.1; omega
  by_cases hw : (qq c [123]).2 = true
  · have hpa : qbk rd c = qb5 rd (rest (qq c [123]).1 + 1) (qq c [123]).1 [] := by rw [qbk, if_pos hw]
    rw [hpa] at hk1 hk2 ⊢
    clear hpa
    generalize htg : qb5 rd (rest (qq c [123]).1 + 1) (qq c [123]).1 [] = tg at hk1 hk2 ⊢
    repeat' (first | refine qj ?_ | refine ql ?_ | ((first | refine qn ?_ | refine qk ?_ | refine qh ?_ | refine qg ?_) <;> (try simp (disch := first | omega | (simp only [List.length_set, List.length_append, List.length_cons, List.length_nil]; done) | (simp only [List.length_set, List.length_append, List.length_cons, List.length_nil]; omega)) only [hw, go_sem, ↓reduceIte, Nat.reduceEqDiff, Nat.reduceAdd, Nat.reduceSub, Nat.reduceMul, Nat.reduceLT, Nat.reduceLeDiff, reduceCtorEq, Int.reduceToNat])) | ((first | ((first | refine qe ?_ ?_ | refine qd ?_ ?_) <;> intro hc <;> (try simp only [hc]) <;> (try simp only [qb, qa, decide_eq_true_eq, decide_eq_false_iff_not, Bool.and_eq_true] at hc)) | refine And.intro (by first | assumption | omega | (have := qf (by assumption); omega) | (unfold qp; omega)) ?_ | simp (disch := omega) only [qc] | simp (disch := omega) only [qo] | refine qce hg.ok ?_) <;> (try simp only [go_sem, ↓reduceIte, Nat.reduceEqDiff, Nat.reduceAdd, Nat.reduceSub, Nat.reduceMul, Nat.reduceLT, Nat.reduceLeDiff, reduceCtorEq, Int.reduceToNat])))
    refine qcy (S := Nat × K × List N) (fun x => x.2.1.good ∧ rest x.2.1 ≤ b ∧ qb5 rd x.1 x.2.1 x.2.2 = tg ∧ rest x.2.1 < x.1 ∧ x.2.2.length + rest x.2.1 ≤ 1048577)
      (qv4 g) (fun x => rest x.2.1) ?_ ?_
    · refine qcd (rest (qq c [123]).1 + 1, (qq c [123]).1, []) [0, 1] ⟨g1, hr1, htg, Nat.lt_succ_self _, ?_⟩ rfl (by simp) ?_ ?_ ?_
      · have h9 := g1.rest
        unfold rest
        simp only [List.length_nil]
        omega
      all_goals simp only [qv4, encs, qbq, qbt]
      all_goals simp only [go_sem, ↓reduceIte, Nat.reduceEqDiff, Nat.reduceAdd, Nat.reduceSub, Nat.reduceMul, Nat.reduceLT, Nat.reduceLeDiff, reduceCtorEq, Int.reduceToNat]
    · rintro ⟨fu, d, acc⟩ ⟨i1, i2, i3, i4, i5⟩
      simp only at i1 i2 i3 i4 i5
      obtain ⟨fu, rfl⟩ : ∃ k, fu = k + 1 := ⟨fu - 1, by omega⟩
      rw [qb5] at i3
      have hcap : qp (acc.length + 1) 64 := capN (by omega)
      have hclo := ih d i1 i2
      have hlt := hl d
      have j1 : (rd d).1.good := (hd d).1 i1
      have j2 := (hd d).2.1
      generalize rd d = r at *
      obtain ⟨d', n, ok⟩ := r
      simp only at j1 j2 hlt i3 hclo
      unfold qv4 qbdk
      generalize h9 : qbc3 = R9
      cases ok with
      | false =>
        rw [if_neg (by simp)] at i3
        subst i3
        obtain rfl := hk1 rfl
        by_cases h0 : acc = []
        · subst h0
          simp only [encs, qbq, qbt]
          repeat' (first | refine qj ?_ | refine ql ?_ | ((first | refine qn ?_ | refine qk ?_ | refine qh ?_ | refine qg ?_ | refine qtl hclo ?_ | ((first | refine qe ?_ ?_ | refine qd ?_ ?_) <;> intro hc <;> (try simp only [hc]) <;> (try simp only [qb, qa, decide_eq_true_eq, decide_eq_false_iff_not, Bool.and_eq_true] at hc)) | refine And.intro (by first | assumption | omega | (have := qf (by assumption); omega) | (unfold qp; omega)) ?_ | simp (disch := omega) only [qc] | simp (disch := omega) only [qo]) <;> (try simp only [go_sem, ↓reduceIte, Nat.reduceEqDiff, Nat.reduceAdd, Nat.reduceSub, Nat.reduceMul, Nat.reduceLT, Nat.reduceLeDiff, reduceCtorEq, Int.reduceToNat])))
          all_goals first | exact ⟨rfl, rfl⟩
        · have hne := qbl h0
          simp only [qby hne, qbz hne, qbm]
          repeat' (first | refine qj ?_ | refine ql ?_ | ((first | refine qn ?_ | refine qk ?_ | refine qh ?_ | refine qg ?_ | refine qtl hclo ?_ | ((first | refine qe ?_ ?_ | refine qd ?_ ?_) <;> intro hc <;> (try simp only [hc]) <;> (try simp only [qb, qa, decide_eq_true_eq, decide_eq_false_iff_not, Bool.and_eq_true] at hc)) | refine And.intro (by first | assumption | omega | (have := qf (by assumption); omega) | (unfold qp; omega)) ?_ | simp (disch := omega) only [qc] | simp (disch := omega) only [qo]) <;> (try simp only [go_sem, ↓reduceIte, Nat.reduceEqDiff, Nat.reduceAdd, Nat.reduceSub, Nat.reduceMul, Nat.reduceLT, Nat.reduceLeDiff, reduceCtorEq, Int.reduceToNat])))
          all_goals first | exact ⟨rfl, rfl⟩
      | true =>
        have hlt := hlt rfl
        rw [if_pos rfl] at i3
        by_cases h0 : acc = []
        · subst h0
          simp only [encs, qbq, qbt]
          repeat' (first | refine qj ?_ | refine ql ?_ | ((first | refine qn ?_ | refine qk ?_ | refine qh ?_ | refine qg ?_ | refine qtl hclo ?_ | ((first | refine qe ?_ ?_ | refine qd ?_ ?_) <;> intro hc <;> (try simp only [hc]) <;> (try simp only [qb, qa, decide_eq_true_eq, decide_eq_false_iff_not, Bool.and_eq_true] at hc)) | refine And.intro (by first | assumption | omega | (have := qf (by assumption); omega) | (unfold qp; omega)) ?_ | simp (disch := omega) only [qc] | simp (disch := omega) only [qo]) <;> (try simp only [go_sem, ↓reduceIte, Nat.reduceEqDiff, Nat.reduceAdd, Nat.reduceSub, Nat.reduceMul, Nat.reduceLT, Nat.reduceLeDiff, reduceCtorEq, Int.reduceToNat])))
          refine qbho (af' := ⟨[(0, .ptr 0 0), (1, .fn g [] [.ptr 1 0]), (6, .row 2 1)], []⟩) (H' := [curE d', .blk [.ptr 0 0], .app 5 (encs ([] ++ [n]))]) ?_ (q83 [0, 1, 3] rfl (by simp) ?_ ?_ ?_)
          rotate_left
          all_goals (try simp only [← qt, List.nil_append, encs, List.length_nil])
          all_goals (try simp only [go_sem, ↓reduceIte, Nat.reduceEqDiff, Nat.reduceAdd, Nat.reduceSub, Nat.reduceMul, Nat.reduceLT, Nat.reduceLeDiff, reduceCtorEq, Int.reduceToNat])
          all_goals (try (rw [qt, qbc, qbw]; exact ⟨rfl, rfl⟩))
          subst h9
          have hta : (qs d' [59]).1.good := (qz _ _).1 j1
          have htr := (qz d' [59]).2.1
          have hne3 : ¬ [] ++ [n] = [] := by simp
          have hlen : ([] ++ [n]).length = 1 := by simp
          repeat' (first | refine qj ?_ | refine ql ?_ | ((first | refine qn ?_ | refine qk ?_ | refine qh ?_ | refine qg ?_ | refine qd5 j1.ok ?_ | refine a_Is ?_ | refine qce hta.ok ?_ | ((first | refine qe ?_ ?_ | refine qd ?_ ?_) <;> intro hc <;> (try simp only [hc]) <;> (try simp only [qb, qa, decide_eq_true_eq, decide_eq_false_iff_not, Bool.and_eq_true] at hc)) | refine And.intro (by first | assumption | omega | (have := qf (by assumption); omega) | (unfold qp; omega)) ?_ | simp (disch := omega) only [qc] | simp (disch := omega) only [qo]) <;> (try simp only [go_sem, ↓reduceIte, Nat.reduceEqDiff, Nat.reduceAdd, Nat.reduceSub, Nat.reduceMul, Nat.reduceLT, Nat.reduceLeDiff, reduceCtorEq, Int.reduceToNat])))
          · have ht : (qs d' [59]).2 = false := by assumption
            rw [ht, Bool.false_and, if_neg (by simp)] at i3
            subst i3
            obtain rfl := hk2 (by simp)
            simp only [qbz (qbl hne3), qby (qbl hne3), qbm, hlen, ← qt]
            simp only [go_sem, ↓reduceIte, Nat.reduceEqDiff, Nat.reduceAdd, Nat.reduceSub, Nat.reduceMul, Nat.reduceLT, Nat.reduceLeDiff, reduceCtorEq, Int.reduceToNat]
            all_goals first | (rw [qt]; exact qbc _ _) | exact ⟨rfl, rfl⟩ | rfl | (rw [qt, qbc, qbw]; exact ⟨rfl, rfl⟩)
          · have ht : (qs d' [59]).2 = true := by assumption
            have hi : isK (qs d' [59]).1 [125] = true := by assumption
            rw [ht, hi, Bool.true_and, Bool.not_true, if_neg (by simp)] at i3
            subst i3
            obtain rfl := hk2 (by simp)
            simp only [qbz (qbl hne3), qby (qbl hne3), qbm, hlen, ← qt]
            simp only [go_sem, ↓reduceIte, Nat.reduceEqDiff, Nat.reduceAdd, Nat.reduceSub, Nat.reduceMul, Nat.reduceLT, Nat.reduceLeDiff, reduceCtorEq, Int.reduceToNat]
            all_goals first | (rw [qt]; exact qbc _ _) | exact ⟨rfl, rfl⟩ | rfl | (rw [qt, qbc, qbw]; exact ⟨rfl, rfl⟩)
          · have ht : (qs d' [59]).2 = true := by assumption
            have hi : isK (qs d' [59]).1 [125] = false := by assumption
            rw [ht, hi, Bool.true_and, Bool.not_false, if_pos rfl] at i3
            have htl := qcs ht
            refine qcd (fu, (qs d' [59]).1, [] ++ [n]) [0, 1, 2] ⟨⟨hta, by simp only; omega, i3, by simp only; omega, by simp only [hlen]; omega⟩, by simp only; omega⟩ rfl (by simp) ?_ ?_ ?_
            all_goals simp only [qv4, qbz (qbl hne3), qby (qbl hne3), qbm, hlen, ← qt]
            all_goals simp only [go_sem, ↓reduceIte, Nat.reduceEqDiff, Nat.reduceAdd, Nat.reduceSub, Nat.reduceMul, Nat.reduceLT, Nat.reduceLeDiff, reduceCtorEq, Int.reduceToNat]
            all_goals first | (rw [qt]; exact qbc _ _) | exact ⟨rfl, rfl⟩ | rfl | (rw [qt, qbc, qbw]; exact ⟨rfl, rfl⟩)
        · have hne := qbl h0
          simp only [qby hne, qbz hne, qbm]
          repeat' (first | refine qj ?_ | refine ql ?_ | ((first | refine qn ?_ | refine qk ?_ | refine qh ?_ | refine qg ?_ | refine qtl hclo ?_ | ((first | refine qe ?_ ?_ | refine qd ?_ ?_) <;> intro hc <;> (try simp only [hc]) <;> (try simp only [qb, qa, decide_eq_true_eq, decide_eq_false_iff_not, Bool.and_eq_true] at hc)) | refine And.intro (by first | assumption | omega | (have := qf (by assumption); omega) | (unfold qp; omega)) ?_ | simp (disch := omega) only [qc] | simp (disch := omega) only [qo]) <;> (try simp only [go_sem, ↓reduceIte, Nat.reduceEqDiff, Nat.reduceAdd, Nat.reduceSub, Nat.reduceMul, Nat.reduceLT, Nat.reduceLeDiff, reduceCtorEq, Int.reduceToNat])))
          refine qbho (af' := ⟨[(0, .ptr 0 0), (1, .fn g [] [.ptr 1 0]), (6, .row 2 (acc.length + 1))], []⟩) (H' := [curE d', .blk [.ptr 0 0], .app 5 (encs (acc ++ [n]))]) ?_ (q83 [0, 1, 4] rfl (by simp) ?_ ?_ ?_)
          rotate_left
          all_goals (try simp only [← qt, List.nil_append, encs, List.length_nil])
          all_goals (try simp only [go_sem, ↓reduceIte, Nat.reduceEqDiff, Nat.reduceAdd, Nat.reduceSub, Nat.reduceMul, Nat.reduceLT, Nat.reduceLeDiff, reduceCtorEq, Int.reduceToNat])
          all_goals (try (rw [qt, qbc, qbw]; exact ⟨rfl, rfl⟩))
          subst h9
          have hta : (qs d' [59]).1.good := (qz _ _).1 j1
          have htr := (qz d' [59]).2.1
          have hne3 : ¬ acc ++ [n] = [] := by simp
          have hlen : (acc ++ [n]).length = acc.length + 1 := by simp
          repeat' (first | refine qj ?_ | refine ql ?_ | ((first | refine qn ?_ | refine qk ?_ | refine qh ?_ | refine qg ?_ | refine qd5 j1.ok ?_ | refine a_Is ?_ | refine qce hta.ok ?_ | ((first | refine qe ?_ ?_ | refine qd ?_ ?_) <;> intro hc <;> (try simp only [hc]) <;> (try simp only [qb, qa, decide_eq_true_eq, decide_eq_false_iff_not, Bool.and_eq_true] at hc)) | refine And.intro (by first | assumption | omega | (have := qf (by assumption); omega) | (unfold qp; omega)) ?_ | simp (disch := omega) only [qc] | simp (disch := omega) only [qo]) <;> (try simp only [go_sem, ↓reduceIte, Nat.reduceEqDiff, Nat.reduceAdd, Nat.reduceSub, Nat.reduceMul, Nat.reduceLT, Nat.reduceLeDiff, reduceCtorEq, Int.reduceToNat])))
          · have ht : (qs d' [59]).2 = false := by assumption
            rw [ht, Bool.false_and, if_neg (by simp)] at i3
            subst i3
            obtain rfl := hk2 (by simp)
            simp only [qbz (qbl hne3), qby (qbl hne3), qbm, hlen, ← qt]
            simp only [go_sem, ↓reduceIte, Nat.reduceEqDiff, Nat.reduceAdd, Nat.reduceSub, Nat.reduceMul, Nat.reduceLT, Nat.reduceLeDiff, reduceCtorEq, Int.reduceToNat]
            all_goals first | (rw [qt]; exact qbc _ _) | exact ⟨rfl, rfl⟩ | rfl | (rw [qt, qbc, qbw]; exact ⟨rfl, rfl⟩)
          · have ht : (qs d' [59]).2 = true := by assumption
            have hi : isK (qs d' [59]).1 [125] = true := by assumption
            rw [ht, hi, Bool.true_and, Bool.not_true, if_neg (by simp)] at i3
            subst i3
            obtain rfl := hk2 (by simp)
            simp only [qbz (qbl hne3), qby (qbl hne3), qbm, hlen, ← qt]
            simp only [go_sem, ↓reduceIte, Nat.reduceEqDiff, Nat.reduceAdd, Nat.reduceSub, Nat.reduceMul, Nat.reduceLT, Nat.reduceLeDiff, reduceCtorEq, Int.reduceToNat]
            all_goals first | (rw [qt]; exact qbc _ _) | exact ⟨rfl, rfl⟩ | rfl | (rw [qt, qbc, qbw]; exact ⟨rfl, rfl⟩)
          · have ht : (qs d' [59]).2 = true := by assumption
            have hi : isK (qs d' [59]).1 [125] = false := by assumption
            rw [ht, hi, Bool.true_and, Bool.not_false, if_pos rfl] at i3
            have htl := qcs ht
            refine qcd (fu, (qs d' [59]).1, acc ++ [n]) [0, 1, 2] ⟨⟨hta, by simp only; omega, i3, by simp only; omega, by simp only [hlen]; omega⟩, by simp only; omega⟩ rfl (by simp) ?_ ?_ ?_
            all_goals simp only [qv4, qbz (qbl hne3), qby (qbl hne3), qbm, hlen, ← qt]
            all_goals simp only [go_sem, ↓reduceIte, Nat.reduceEqDiff, Nat.reduceAdd, Nat.reduceSub, Nat.reduceMul, Nat.reduceLT, Nat.reduceLeDiff, reduceCtorEq, Int.reduceToNat]
            all_goals first | (rw [qt]; exact qbc _ _) | exact ⟨rfl, rfl⟩ | rfl | (rw [qt, qbc, qbw]; exact ⟨rfl, rfl⟩)
  · have hpa : qbk rd c = ((qq c [123]).1, [], false) := by rw [qbk, if_neg hw]
    rw [hpa] at hk1 hk2 ⊢
    obtain rfl := hk1 rfl
    repeat' (first | refine qj ?_ | refine ql ?_ | ((first | refine qn ?_ | refine qk ?_ | refine qh ?_ | refine qg ?_) <;> (try simp (disch := first | omega | (simp only [List.length_set, List.length_append, List.length_cons, List.length_nil]; done) | (simp only [List.length_set, List.length_append, List.length_cons, List.length_nil]; omega)) only [hw, go_sem, ↓reduceIte, Nat.reduceEqDiff, Nat.reduceAdd, Nat.reduceSub, Nat.reduceMul, Nat.reduceLT, Nat.reduceLeDiff, reduceCtorEq, Int.reduceToNat])) | ((first | ((first | refine qe ?_ ?_ | refine qd ?_ ?_) <;> intro hc <;> (try simp only [hc]) <;> (try simp only [qb, qa, decide_eq_true_eq, decide_eq_false_iff_not, Bool.and_eq_true] at hc)) | refine And.intro (by first | assumption | omega | (have := qf (by assumption); omega) | (unfold qp; omega)) ?_ | simp (disch := omega) only [qc] | simp (disch := omega) only [qo] | refine qce hg.ok ?_) <;> (try simp only [go_sem, ↓reduceIte, Nat.reduceEqDiff, Nat.reduceAdd, Nat.reduceSub, Nat.reduceMul, Nat.reduceLT, Nat.reduceLeDiff, reduceCtorEq, Int.reduceToNat])))
    exact ⟨rfl, rfl⟩
set_option maxRecDepth 4000

theorem qmw {rd : K → R3} (hd : ∀ c, Mon c (rd c).1) (hl : ∀ c, (rd c).2.2 = true → rest (rd c).1 < rest c) : ∀ (f : Nat) (c : K) (acc : List N), (qb5 rd f c acc).2.1.length ≤ acc.length + rest c
  | 0, c, acc => by simp [qb5]
  | f + 1, c, acc => by
    rw [qb5]
    split
    · rename_i h
      have h1 := hl c h
      split
      · have h2 := qmw hd hl f (qs (rd c).1 [59]).1 (acc ++ [(rd c).2.1])
        have h3 := (qz (rd c).1 [59]).2.1
        simp only [List.length_append, List.length_cons, List.length_nil] at h2
        omega
      · simp only [List.length_append, List.length_cons, List.length_nil]; omega
    · simp
theorem qo3 {rd : K → R3} (hd : ∀ c, Mon c (rd c).1) (hl : ∀ c, (rd c).2.2 = true → rest (rd c).1 < rest c) (c : K) : (qbk rd c).2.1.length ≤ rest c := by
  unfold qbk
  split
  · have h1 := qmw hd hl (rest (qq c [123]).1 + 1) (qq c [123]).1 []
    have h2 := (qr c [123]).2.1
    simp only [List.length_nil] at h1
    omega
  · simp
theorem qo7 {rd : K → R3} : ∀ (f : Nat) (c : K) (acc : List N), (qb5 rd f c acc).2.2 = true → (qb5 rd f c acc).2.1 ≠ []
  | 0, c, acc => fun h => by cases h
  | f + 1, c, acc => fun h => by
    rw [qb5] at h ⊢
    split at h
    · rename_i h1
      rw [if_pos h1]
      split at h
      · rename_i h2
        rw [if_pos h2]
        exact qo7 f _ _ h
      · rename_i h2
        rw [if_neg h2]
        simp
    · cases h
theorem q2r {rd : K → R3} {c : K} (h : (qbk rd c).2.2 = true) : (qbk rd c).2.1 ≠ [] := by
  unfold qbk at h ⊢
  split at h
  · rename_i h1
    rw [if_pos h1]
    exact qo7 _ _ _ h
  · cases h
theorem qvr {rd : K → R3} {g : FuncId} {c : K} (h : qny rd g c) (h0 : (qbk rd c).2.1 = []) {L : List Ent} {Q : List Ent → VO → Prop} (hq : Q (curE (qbk rd c).1 :: .blk [.ptr 0 0] :: L) (.val (.tup [.nils, .bool (qbk rd c).2.2]))) :
    VApp Try.prog (curE c :: .blk [.ptr 0 0] :: L) (.fn 88 [] []) [.ptr 0 0, .fn g [] [.ptr 1 0]] Q :=
  qcb (first := []) (caps := []) (by
    simp only [List.nil_append, List.append_nil]
    refine qc6 (H0 := [curE c, .blk [.ptr 0 0]]) (L := L) h (qjz c) rfl ?_
    rintro H1 o ⟨rfl, rfl⟩
    rw [h0]
    exact ⟨rfl, qjz _, rfl, hq⟩)
theorem qvq {rd : K → R3} {g : FuncId} {c : K} (h : qny rd g c) (h0 : (qbk rd c).2.1 ≠ []) {L : List Ent} {Q : List Ent → VO → Prop}
    (hq : Q (curE (qbk rd c).1 :: .blk [.ptr 0 0] :: (L ++ [.app 5 (encs (qbk rd c).2.1)])) (.val (.tup [.row (L.length + 2) (qbk rd c).2.1.length, .bool (qbk rd c).2.2]))) :
    VApp Try.prog (curE c :: .blk [.ptr 0 0] :: L) (.fn 88 [] []) [.ptr 0 0, .fn g [] [.ptr 1 0]] Q :=
  qcb (first := []) (caps := []) (by
    simp only [List.nil_append, List.append_nil]
    have hne := qbl h0
    have hs : AV.rens (sg [0, 1]) [.ptr 0 0, .fn g [] [.ptr 1 0]] = [.ptr 0 0, .fn g [] [.ptr 1 0]] := rfl
    rw [← hs]
    have ha : AV.bds 2 [.ptr 0 0, .fn g [] [.ptr 1 0]] = true := rfl
    have napp_ren : ∀ σ : Nat → Nat, (Ent.app 5 (encs (qbk rd c).2.1)).ren σ = .app 5 (encs (qbk rd c).2.1) := fun σ => Ent.ren_same (m := 0) (fun i hi => by omega) _ (by simp [Ent.bd, qbc])
    have hp : ∀ σ : Nat → Nat, σ 0 = 0 → (Ent.blk [.ptr 0 0]).ren σ = .blk [.ptr 0 0] := fun σ h => by simp [Ent.ren, AV.rens, AV.ren, h]
    refine qgh (H0 := [curE c, .blk [.ptr 0 0]]) [0, 1] h (by simp) (by simp) rfl ?_ ha ?_
    · intro j e2 hj
      have hj2 : j < 2 := by have := (List.getElem?_eq_some_iff.1 hj).1; simpa using this
      have : j = 0 ∨ j = 1 := by omega
      rcases this with rfl | rfl
      · simp only [List.getElem?_cons_zero, Option.some.injEq] at hj
        subst hj
        exact .inr ⟨qbe _ _, by rw [qc0]; rfl⟩
      · simp only [List.getElem?_cons_succ, List.getElem?_cons_zero, Option.some.injEq] at hj
        subst hj
        exact .inr ⟨rfl, rfl⟩
    rintro H1 o ⟨rfl, rfl⟩
    have hq2 : (Ent.blk [.ptr 0 0]).ren (sg' [0, 1] (L.length + 1 + 1)) = .blk [.ptr 0 0] := hp _ rfl
    simp only [qbz hne, qby hne, qbm, List.length_cons, List.length_nil, List.take_succ_cons, List.take_zero, List.map_nil, qb0, List.drop_zero, List.drop_succ_cons, List.map_cons, qc0, napp_ren, hq2, VO.ren, AV.ren, AV.rens, List.set_cons_zero, List.set_cons_succ]
    exact hq)
def posZ (p : Int) : AV := .agg [.int .i64 0, .int .i64 p, .int .i64 0, .str [], .nils]
theorem qij (p : Int) : AV.agg [.int .i64 0, .int .i64 p, .int .i64 0, .str [], .sl 5 []] = enc (posN p) := by simp only [posN, enc, encs]
theorem qyd (p e : N) : AV.agg [.int .i64 15, .int .i64 p.pos, .int .i64 0, .str [], .sl 5 [enc p, enc e]] = enc (altN p e) := by simp only [altN, enc, encs]
section
variable {rec : K → K × Option N} {b : Nat} (ih : ∀ c, c.good → rest c < b → qcc Try.prog 66 (curE c) (curE (rec c).1) [.ptr 0 0] (resP (rec c).2))
include ih
theorem qba7 (c : K) (hg : c.good) (hr : rest c ≤ b) : VClo 89 c (ofO (qb2 rec c)).1 (ofO (qb2 rec c)).2 := by
  refine qx c0g 2 (by simp) (by simp) ?_
  repeat' (first | refine qj ?_ | ((first | refine qn ?_ | refine qk ?_ | refine qcp (qry ih c hg hr) rfl ?_ | ((first | refine qe ?_ ?_ | refine qd ?_ ?_) <;> intro hc <;> (try simp only [hc]) <;> (try simp only [qb, qa, decide_eq_true_eq, decide_eq_false_iff_not, Bool.and_eq_true] at hc)) | refine And.intro (by first | assumption | omega | (have := qf (by assumption); omega) | (unfold qp; omega)) ?_ | simp (disch := omega) only [qc] | simp (disch := omega) only [qo]) <;> (try simp only [go_sem, ↓reduceIte, Nat.reduceEqDiff, Nat.reduceAdd, Nat.reduceSub, Nat.reduceMul, Nat.reduceLT, Nat.reduceLeDiff, reduceCtorEq, Int.reduceToNat])))
  exact ⟨rfl, rfl⟩
theorem q2u (c : K) (hg : c.good) (hr : rest c ≤ b) : VClo 90 c (qd8 rec c).1 (qd8 rec c).2 := by
  have hp := qbq6 (rest c + 2) c hg (by omega)
  have g1 : (qcf (rest c + 2) c).1.good := (qe0 _ c).1 hg
  have hr1 : rest (qcf (rest c + 2) c).1 ≤ b := by have := (qe0 (rest c + 2) c).2.1; omega
  refine qx c0h 2 (by simp) (by simp) ?_
  unfold qd8
  generalize qcf (rest c + 2) c = r at *
  obtain ⟨d, o⟩ := r
  simp only at hp g1 hr1 ⊢
  have g2 : (qq d [45, 62]).1.good := (qr _ _).1 g1
  have hlt : (qq d [45, 62]).2 = true → rest (qq d [45, 62]).1 < b := fun h => by have := qgm h; omega
  unfold altB altC
  cases o with
  | none =>
    repeat' (first | refine qj ?_ | ((first | refine qn ?_ | refine qk ?_ | refine qh ?_ | refine qg ?_) <;> (try simp (disch := first | omega | (simp only [List.length_set, List.length_append, List.length_cons, List.length_nil]; done) | (simp only [List.length_set, List.length_append, List.length_cons, List.length_nil]; omega)) only [Option.isSome_none, Option.getD_none, go_sem, ↓reduceIte, Nat.reduceEqDiff, Nat.reduceAdd, Nat.reduceSub, Nat.reduceMul, Nat.reduceLT, Nat.reduceLeDiff, reduceCtorEq, Int.reduceToNat])) | ((first | ((first | refine qe ?_ ?_ | refine qd ?_ ?_) <;> intro hc <;> (try simp only [hc]) <;> (try simp only [qb, qa, decide_eq_true_eq, decide_eq_false_iff_not, Bool.and_eq_true] at hc)) | refine And.intro (by first | assumption | omega | (have := qf (by assumption); omega) | (unfold qp; omega)) ?_ | simp (disch := omega) only [qc] | simp (disch := omega) only [qo] | refine qcp hp rfl ?_) <;> (try simp only [go_sem, ↓reduceIte, Nat.reduceEqDiff, Nat.reduceAdd, Nat.reduceSub, Nat.reduceMul, Nat.reduceLT, Nat.reduceLeDiff, reduceCtorEq, Int.reduceToNat])))
    all_goals (try rfl)
  | some p =>
    by_cases hw : (qq d [45, 62]).2 = true
    · have hr := ih _ g2 (hlt hw)
      repeat' (first | refine qj ?_ | ((first | refine qn ?_ | refine qk ?_ | refine qh ?_ | refine qg ?_) <;> (try simp (disch := first | omega | (simp only [List.length_set, List.length_append, List.length_cons, List.length_nil]; done) | (simp only [List.length_set, List.length_append, List.length_cons, List.length_nil]; omega)) only [hw, Option.isSome_some, Option.getD_some, go_sem, ↓reduceIte, Nat.reduceEqDiff, Nat.reduceAdd, Nat.reduceSub, Nat.reduceMul, Nat.reduceLT, Nat.reduceLeDiff, reduceCtorEq, Int.reduceToNat])) | ((first | ((first | refine qe ?_ ?_ | refine qd ?_ ?_) <;> intro hc <;> (try simp only [hc]) <;> (try simp only [qb, qa, decide_eq_true_eq, decide_eq_false_iff_not, Bool.and_eq_true] at hc)) | refine And.intro (by first | assumption | omega | (have := qf (by assumption); omega) | (unfold qp; omega)) ?_ | simp (disch := omega) only [qc] | simp (disch := omega) only [qo] | refine qcp hp rfl ?_ | refine qce g1.ok ?_ | refine qcp hr rfl ?_) <;> (try simp only [go_sem, ↓reduceIte, Nat.reduceEqDiff, Nat.reduceAdd, Nat.reduceSub, Nat.reduceMul, Nat.reduceLT, Nat.reduceLeDiff, reduceCtorEq, Int.reduceToNat])))
      all_goals first | (rw [qyd]; done) | (rw [qyd]; rfl) | (rw [qyd]; exact ⟨rfl, rfl⟩)
    · repeat' (first | refine qj ?_ | ((first | refine qn ?_ | refine qk ?_ | refine qh ?_ | refine qg ?_) <;> (try simp (disch := first | omega | (simp only [List.length_set, List.length_append, List.length_cons, List.length_nil]; done) | (simp only [List.length_set, List.length_append, List.length_cons, List.length_nil]; omega)) only [hw, Option.isSome_some, Option.getD_some, go_sem, ↓reduceIte, Nat.reduceEqDiff, Nat.reduceAdd, Nat.reduceSub, Nat.reduceMul, Nat.reduceLT, Nat.reduceLeDiff, reduceCtorEq, Int.reduceToNat])) | ((first | ((first | refine qe ?_ ?_ | refine qd ?_ ?_) <;> intro hc <;> (try simp only [hc]) <;> (try simp only [qb, qa, decide_eq_true_eq, decide_eq_false_iff_not, Bool.and_eq_true] at hc)) | refine And.intro (by first | assumption | omega | (have := qf (by assumption); omega) | (unfold qp; omega)) ?_ | simp (disch := omega) only [qc] | simp (disch := omega) only [qo] | refine qcp hp rfl ?_ | refine qce g1.ok ?_) <;> (try simp only [go_sem, ↓reduceIte, Nat.reduceEqDiff, Nat.reduceAdd, Nat.reduceSub, Nat.reduceMul, Nat.reduceLT, Nat.reduceLeDiff, reduceCtorEq, Int.reduceToNat])))
      all_goals (try rfl)
end
set_option maxRecDepth 4000

theorem qbp5 (p : Int) (l : List N) (k : N) : AV.agg [.int .i64 26, .int .i64 p, .int .i64 0, .str [], .sl 5 (encs l ++ [enc k])] = enc (.mk 26 p 0 [] (l ++ [k])) := by simp only [enc, qt]
section
variable {rec : K → K × Option N} {b : Nat} (hm : ∀ c, Mon c (rec c).1) (ih : ∀ c, c.good → rest c < b → qcc Try.prog 66 (curE c) (curE (rec c).1) [.ptr 0 0] (resP (rec c).2))
include hm ih
theorem qbh8 (p : Int) (c : K) (hg : c.good) (hr : rest c ≤ b) : qcc Try.prog 82 (curE c) (curE (qg0 rec p c).1) [.ptr 0 0, posZ p] (resB (qg0 rec p c).2) := by
  have hd : ∀ c, Mon c (ofO (qb2 rec c)).1 := fun c => qgk hm c
  have hl : ∀ c, (ofO (qb2 rec c)).2.2 = true → rest (ofO (qb2 rec c)).1 < rest c := fun c h => qi3 hm h
  have hS := qyq (g := 89) hd hl (fun c g r => qba7 ih c g r) c hg hr
  have hlen := qo3 hd hl c
  have hne := @q2r (fun c => ofO (qb2 rec c)) c
  have g1 : (qbk (fun c => ofO (qb2 rec c)) c).1.good := (qgi hd c).1 hg
  have hr1 : rest (qbk (fun c => ofO (qb2 rec c)) c).1 ≤ b := by have := (qgi hd c).2.1; omega
  have happ0 := @qvr _ _ _ hS
  have happ1 := @qvq _ _ _ hS
  have hgr := hg.rest
  clear hS hd hl
  refine qx c0c 1 (by simp) (by simp [posZ]) ?_
  unfold qg0 posZ
  generalize qbk (fun c => ofO (qb2 rec c)) c = L at *
  obtain ⟨d, l, ok⟩ := L
  simp only at hlen hne g1 hr1 happ0 happ1
  have g2 : (qq d [105, 110]).1.good := (qr _ _).1 g1
  have hlt : (qq d [105, 110]).2 = true → rest (qq d [105, 110]).1 < b := fun h => by have := qgm h; omega
  have hcap : qp (l.length + 1) 64 := capN (by unfold rest at hlen; omega)
  unfold letB letC
  by_cases h0 : l = []
  · subst h0
    have ok0 : ok = false := by cases ok with | false => rfl | true => exact absurd rfl (hne rfl)
    subst ok0
    repeat' (first | refine qj ?_ | ((first | refine qn ?_ | refine qk ?_ | refine qh ?_ | refine qg ?_ | refine happ0 rfl ?_ | ((first | refine qe ?_ ?_ | refine qd ?_ ?_) <;> intro hc <;> (try simp only [hc]) <;> (try simp only [qb, qa, decide_eq_true_eq, decide_eq_false_iff_not, Bool.and_eq_true] at hc)) | refine And.intro (by first | assumption | omega | (have := qf (by assumption); omega) | (unfold qp; omega)) ?_ | simp (disch := omega) only [qc] | simp (disch := omega) only [qo]) <;> (try simp only [go_sem, ↓reduceIte, Nat.reduceEqDiff, Nat.reduceAdd, Nat.reduceSub, Nat.reduceMul, Nat.reduceLT, Nat.reduceLeDiff, reduceCtorEq, Int.reduceToNat])))
    all_goals (try rw [qij])
    all_goals (try exact ⟨rfl, rfl⟩)
  · cases ok with
    | false =>
      repeat' (first | refine qj ?_ | ((first | refine qn ?_ | refine qk ?_ | refine qh ?_ | refine qg ?_ | refine happ1 h0 ?_ | ((first | refine qe ?_ ?_ | refine qd ?_ ?_) <;> intro hc <;> (try simp only [hc]) <;> (try simp only [qb, qa, decide_eq_true_eq, decide_eq_false_iff_not, Bool.and_eq_true] at hc)) | refine And.intro (by first | assumption | omega | (have := qf (by assumption); omega) | (unfold qp; omega)) ?_ | simp (disch := omega) only [qc] | simp (disch := omega) only [qo]) <;> (try simp only [go_sem, ↓reduceIte, Nat.reduceEqDiff, Nat.reduceAdd, Nat.reduceSub, Nat.reduceMul, Nat.reduceLT, Nat.reduceLeDiff, reduceCtorEq, Int.reduceToNat])))
      all_goals (try rw [qij])
      all_goals (try exact ⟨rfl, rfl⟩)
    | true =>
      by_cases hw : (qq d [105, 110]).2 = true
      · have hr := ih _ g2 (hlt hw)
        repeat' (first | refine qj ?_ | ((first | refine qn ?_ | refine qk ?_ | refine qh ?_ | refine qg ?_) <;> (try simp (disch := first | omega | (simp only [List.length_set, List.length_append, List.length_cons, List.length_nil]; done) | (simp only [List.length_set, List.length_append, List.length_cons, List.length_nil]; omega)) only [hw, go_sem, ↓reduceIte, Nat.reduceEqDiff, Nat.reduceAdd, Nat.reduceSub, Nat.reduceMul, Nat.reduceLT, Nat.reduceLeDiff, reduceCtorEq, Int.reduceToNat])) | ((first | ((first | refine qe ?_ ?_ | refine qd ?_ ?_) <;> intro hc <;> (try simp only [hc]) <;> (try simp only [qb, qa, decide_eq_true_eq, decide_eq_false_iff_not, Bool.and_eq_true] at hc)) | refine And.intro (by first | assumption | omega | (have := qf (by assumption); omega) | (unfold qp; omega)) ?_ | simp (disch := omega) only [qc] | simp (disch := omega) only [qo] | refine happ1 h0 ?_ | refine qce g1.ok ?_ | refine qcp hr rfl ?_) <;> (try simp only [go_sem, ↓reduceIte, Nat.reduceEqDiff, Nat.reduceAdd, Nat.reduceSub, Nat.reduceMul, Nat.reduceLT, Nat.reduceLeDiff, reduceCtorEq, Int.reduceToNat])))
        all_goals (try rw [qbp5])
        all_goals exact ⟨by rw [qt, qbc], rfl⟩
      · repeat' (first | refine qj ?_ | ((first | refine qn ?_ | refine qk ?_ | refine qh ?_ | refine qg ?_) <;> (try simp (disch := first | omega | (simp only [List.length_set, List.length_append, List.length_cons, List.length_nil]; done) | (simp only [List.length_set, List.length_append, List.length_cons, List.length_nil]; omega)) only [hw, go_sem, ↓reduceIte, Nat.reduceEqDiff, Nat.reduceAdd, Nat.reduceSub, Nat.reduceMul, Nat.reduceLT, Nat.reduceLeDiff, reduceCtorEq, Int.reduceToNat])) | ((first | ((first | refine qe ?_ ?_ | refine qd ?_ ?_) <;> intro hc <;> (try simp only [hc]) <;> (try simp only [qb, qa, decide_eq_true_eq, decide_eq_false_iff_not, Bool.and_eq_true] at hc)) | refine And.intro (by first | assumption | omega | (have := qf (by assumption); omega) | (unfold qp; omega)) ?_ | simp (disch := omega) only [qc] | simp (disch := omega) only [qo] | refine happ1 h0 ?_ | refine qce g1.ok ?_) <;> (try simp only [go_sem, ↓reduceIte, Nat.reduceEqDiff, Nat.reduceAdd, Nat.reduceSub, Nat.reduceMul, Nat.reduceLT, Nat.reduceLeDiff, reduceCtorEq, Int.reduceToNat])))
        all_goals (try rw [qij])
        all_goals (try exact ⟨rfl, rfl⟩)
theorem q48 (p : Int) (c : K) (hg : c.good) (hr : rest c < b) : qcc Try.prog 83 (curE c) (curE (qe2 rec p c).1) [.ptr 0 0, posZ p] (resB (qe2 rec p c).2) := by
  have hd : ∀ c, Mon c (qd8 rec c).1 := fun c => ql7 hm c
  have hl : ∀ c, (qd8 rec c).2.2 = true → rest (qd8 rec c).1 < rest c := fun c h => qqk hm h
  have hx := ih c hg hr
  have g1 : (rec c).1.good := (hm c).1 hg
  have hr1 := (hm c).2.1
  refine qx c0d 1 (by simp) (by simp [posZ]) ?_
  unfold qe2 posZ
  generalize rec c = r0 at *
  obtain ⟨d0, o⟩ := r0
  simp only at g1 hr1 hx ⊢
  have g2 : (qq d0 [111, 102]).1.good := (qr _ _).1 g1
  have hr2 : rest (qq d0 [111, 102]).1 ≤ b := by have := (qr d0 [111, 102]).2.1; omega
  have hS := qyq (g := 90) hd hl (fun c g r => q2u ih c g r) (qq d0 [111, 102]).1 g2 hr2
  have hlen := qo3 hd hl (qq d0 [111, 102]).1
  have happ0 := @qvr _ _ _ hS
  have happ1 := @qvq _ _ _ hS
  have hgr := g2.rest
  clear hS hd hl
  unfold qxv qxf
  cases o with
  | none =>
    repeat' (first | refine qj ?_ | ((first | refine qn ?_ | refine qk ?_ | refine qh ?_ | refine qg ?_) <;> (try simp (disch := first | omega | (simp only [List.length_set, List.length_append, List.length_cons, List.length_nil]; done) | (simp only [List.length_set, List.length_append, List.length_cons, List.length_nil]; omega)) only [Option.isSome_none, Option.getD_none, go_sem, ↓reduceIte, Nat.reduceEqDiff, Nat.reduceAdd, Nat.reduceSub, Nat.reduceMul, Nat.reduceLT, Nat.reduceLeDiff, reduceCtorEq, Int.reduceToNat])) | ((first | ((first | refine qe ?_ ?_ | refine qd ?_ ?_) <;> intro hc <;> (try simp only [hc]) <;> (try simp only [qb, qa, decide_eq_true_eq, decide_eq_false_iff_not, Bool.and_eq_true] at hc)) | refine And.intro (by first | assumption | omega | (have := qf (by assumption); omega) | (unfold qp; omega)) ?_ | simp (disch := omega) only [qc] | simp (disch := omega) only [qo] | refine qcp hx rfl ?_) <;> (try simp only [go_sem, ↓reduceIte, Nat.reduceEqDiff, Nat.reduceAdd, Nat.reduceSub, Nat.reduceMul, Nat.reduceLT, Nat.reduceLeDiff, reduceCtorEq, Int.reduceToNat])))
    all_goals (try rw [qij])
    all_goals (try exact ⟨rfl, rfl⟩)
  | some x =>
    by_cases hw : (qq d0 [111, 102]).2 = true
    · generalize qbk (qd8 rec) (qq d0 [111, 102]).1 = L at *
      obtain ⟨d, l, ok⟩ := L
      simp only at hlen happ0 happ1 ⊢
      have hcap : qp (1 + l.length) 64 := capN (by unfold rest at hlen; omega)
      by_cases h0 : l = []
      · subst h0
        repeat' (first | refine qj ?_ | ((first | refine qn ?_ | refine qk ?_ | refine qh ?_ | refine qg ?_) <;> (try simp (disch := first | omega | (simp only [List.length_set, List.length_append, List.length_cons, List.length_nil]; done) | (simp only [List.length_set, List.length_append, List.length_cons, List.length_nil]; omega)) only [hw, Option.isSome_some, Option.getD_some, go_sem, ↓reduceIte, Nat.reduceEqDiff, Nat.reduceAdd, Nat.reduceSub, Nat.reduceMul, Nat.reduceLT, Nat.reduceLeDiff, reduceCtorEq, Int.reduceToNat])) | ((first | ((first | refine qe ?_ ?_ | refine qd ?_ ?_) <;> intro hc <;> (try simp only [hc]) <;> (try simp only [qb, qa, decide_eq_true_eq, decide_eq_false_iff_not, Bool.and_eq_true] at hc)) | refine And.intro (by first | assumption | omega | (have := qf (by assumption); omega) | (unfold qp; omega)) ?_ | simp (disch := omega) only [qc] | simp (disch := omega) only [qo] | refine qcp hx rfl ?_ | refine qce g1.ok ?_ | refine happ0 rfl ?_) <;> (try simp only [go_sem, ↓reduceIte, Nat.reduceEqDiff, Nat.reduceAdd, Nat.reduceSub, Nat.reduceMul, Nat.reduceLT, Nat.reduceLeDiff, reduceCtorEq, Int.reduceToNat])))
        all_goals (try simp only [enc, encs])
      · have hnl : ¬ l.length = 0 := fun h => h0 (List.length_eq_zero_iff.1 h)
        repeat' (first | refine qj ?_ | ((first | refine qn ?_ | refine qk ?_ | refine qh ?_ | refine qg ?_) <;> (try simp (disch := first | omega | (simp only [List.length_set, List.length_append, List.length_cons, List.length_nil]; done) | (simp only [List.length_set, List.length_append, List.length_cons, List.length_nil]; omega)) only [hw, hnl, hcap, Option.isSome_some, Option.getD_some, go_sem, ↓reduceIte, Nat.reduceEqDiff, Nat.reduceAdd, Nat.reduceSub, Nat.reduceMul, Nat.reduceLT, Nat.reduceLeDiff, reduceCtorEq, Int.reduceToNat])) | ((first | ((first | refine qe ?_ ?_ | refine qd ?_ ?_) <;> intro hc <;> (try simp only [hc]) <;> (try simp only [qb, qa, decide_eq_true_eq, decide_eq_false_iff_not, Bool.and_eq_true] at hc)) | refine And.intro (by first | assumption | omega | (have := qf (by assumption); omega) | (unfold qp; omega)) ?_ | simp (disch := omega) only [qc] | simp (disch := omega) only [qo] | refine qcp hx rfl ?_ | refine qce g1.ok ?_ | refine happ1 h0 ?_) <;> (try simp only [go_sem, ↓reduceIte, Nat.reduceEqDiff, Nat.reduceAdd, Nat.reduceSub, Nat.reduceMul, Nat.reduceLT, Nat.reduceLeDiff, reduceCtorEq, Int.reduceToNat])))
        have hcm : l.length + 1 = 1 + l.length := Nat.add_comm _ _
        simp only [hcm, if_true, enc, encs, AV.bd, AV.bds, qmx, qbc, Bool.and_true, and_self]
    · repeat' (first | refine qj ?_ | ((first | refine qn ?_ | refine qk ?_ | refine qh ?_ | refine qg ?_) <;> (try simp (disch := first | omega | (simp only [List.length_set, List.length_append, List.length_cons, List.length_nil]; done) | (simp only [List.length_set, List.length_append, List.length_cons, List.length_nil]; omega)) only [hw, Option.isSome_some, Option.getD_some, go_sem, ↓reduceIte, Nat.reduceEqDiff, Nat.reduceAdd, Nat.reduceSub, Nat.reduceMul, Nat.reduceLT, Nat.reduceLeDiff, reduceCtorEq, Int.reduceToNat])) | ((first | ((first | refine qe ?_ ?_ | refine qd ?_ ?_) <;> intro hc <;> (try simp only [hc]) <;> (try simp only [qb, qa, decide_eq_true_eq, decide_eq_false_iff_not, Bool.and_eq_true] at hc)) | refine And.intro (by first | assumption | omega | (have := qf (by assumption); omega) | (unfold qp; omega)) ?_ | simp (disch := omega) only [qc] | simp (disch := omega) only [qo] | refine qcp hx rfl ?_ | refine qce g1.ok ?_) <;> (try simp only [go_sem, ↓reduceIte, Nat.reduceEqDiff, Nat.reduceAdd, Nat.reduceSub, Nat.reduceMul, Nat.reduceLT, Nat.reduceLeDiff, reduceCtorEq, Int.reduceToNat])))
      all_goals (try rw [qij])
      all_goals (try exact ⟨rfl, rfl⟩)
def q3y (p : Int) (x : Nat × K × List N) : AF × List Ent :=
  (⟨[(0, .ptr 0 0), (3, .ptr 1 0), (4, .ptr 2 0), (11, .agg (ifsW.map AV.str)), (12, .int .i64 x.1)], []⟩,
    curE x.2.1 :: .blk [.int .i64 28, .int .i64 p, .int .i64 0, .str [], accV 3 (encs x.2.2)] :: .blk [.int .i64 0, .int .i64 0, .int .i64 0, .str [], .nils] :: accE 5 (encs x.2.2))
theorem qbqt (p : Int) (c : K) (hg : c.good) (hr : rest c < b) : qcc Try.prog 84 (curE c) (curE (qdt rec p ifsW c []).1) [.ptr 0 0, posZ p] (resB (qdt rec p ifsW c []).2) := by
  refine qx c0e 1 (by simp) (by simp [posZ]) ?_
  unfold posZ
  generalize htg : qdt rec p ifsW c [] = tg
  have hW : AV.agg (ifsW.map AV.str) = .agg [.str [], .str [116, 104, 101, 110], .str [101, 108, 115, 101]] := rfl
  repeat' (first | refine qj ?_ | refine ql ?_ | ((first | refine qn ?_ | refine qk ?_ | refine qu ?_ | refine qh ?_ | refine qg ?_ | ((first | refine qe ?_ ?_ | refine qd ?_ ?_) <;> intro hc <;> (try simp only [hc]) <;> (try simp only [qb, qa, decide_eq_true_eq, decide_eq_false_iff_not, Bool.and_eq_true] at hc)) | refine And.intro (by first | assumption | omega | (have := qf (by assumption); omega) | (unfold qp; omega)) ?_ | simp (disch := omega) only [qc] | simp (disch := omega) only [qo]) <;> (try simp only [go_sem, ↓reduceIte, Nat.reduceEqDiff, Nat.reduceAdd, Nat.reduceSub, Nat.reduceMul, Nat.reduceLT, Nat.reduceLeDiff, reduceCtorEq, Int.reduceToNat])))
  refine qcy (S := Nat × K × List N) (fun x => x.1 ≤ 3 ∧ x.2.1.good ∧ rest x.2.1 < b ∧ qdt rec p (ifsW.drop x.1) x.2.1 x.2.2 = tg ∧ x.2.2.length = x.1)
    (q3y p) (fun x => 3 - x.1) ?_ ?_
  · refine qcd (0, c, []) [0, 1, 2] ⟨by simp, hg, hr, htg, rfl⟩ rfl (by simp) ?_ ?_ ?_
    all_goals simp only [q3y, hW, encs, qbq, qbt]
    all_goals simp only [go_sem, ↓reduceIte, Nat.reduceEqDiff, Nat.reduceAdd, Nat.reduceSub, Nat.reduceMul, Nat.reduceLT, Nat.reduceLeDiff, reduceCtorEq, Int.reduceToNat]
  · rintro ⟨i, d, acc⟩ ⟨i1, i2, i3, i4, i5⟩
    simp only at i1 i2 i3 i4 i5
    unfold q3y
    by_cases hlt : i < 3
    · have hil : (i : Int) < 3 := by omega
      have hd := qp6 (ls := ifsW) (i := i) (by simpa [ifsW] using hlt)
      rw [hd, qdt] at i4
      have hw0 : ifsW.getD i [] = [] ↔ i = 0 := by
        have : i = 0 ∨ i = 1 ∨ i = 2 := by omega
        rcases this with rfl | rfl | rfl <;> simp [ifsW]
      have hln : (ifsW.map AV.str).length = 3 := rfl
      have hln2 : i < ifsW.length := hlt
      have hget : (ifsW.map AV.str).getD i .junk = .str (ifsW.getD i []) := quv hln2
      clear hd
      generalize ifsW.getD i [] = w at *
      have hab : ∀ k, AV.bds k (ifsW.map AV.str) = true := fun k => qta k _
      have har : ∀ σ : Nat → Nat, AV.rens σ (ifsW.map AV.str) = ifsW.map AV.str := fun σ => q0o σ _
      generalize hW2 : ifsW.map AV.str = aw at *
      by_cases h0 : i = 0
      · subst h0
        have hw : w = [] := hw0.2 rfl
        have ha : acc = [] := List.length_eq_zero_iff.1 i5
        subst hw ha
        have hx := ih d i2 i3
        have g1 : (rec d).1.good := (hm d).1 i2
        have hr1 := (hm d).2.1
        rw [ifsK, if_pos rfl] at i4
        simp only [if_true] at i4
        generalize rec d = r at *
        obtain ⟨d', o⟩ := r
        simp only at g1 hr1 hx i4
        have hcap : qp 1 64 := capN (by omega)
        simp only [encs, qbq, qbt]
        cases o with
        | none =>
          rw [if_neg (by simp)] at i4
          subst i4
          repeat' (first | refine qj ?_ | refine ql ?_ | ((first | refine qn ?_ | refine qk ?_ | refine qu ?_ | refine qh ?_ | refine qg ?_) <;> (try simp (disch := first | omega | (simp only [List.length_set, List.length_append, List.length_cons, List.length_nil]; done) | (simp only [List.length_set, List.length_append, List.length_cons, List.length_nil]; omega)) only [hil, hget, hln, ne_eq, not_true_eq_false, not_false_eq_true, decide_true, decide_false, Option.isSome_none, Option.isSome_some, Option.getD_none, Option.getD_some, go_sem, ↓reduceIte, Nat.reduceEqDiff, Nat.reduceAdd, Nat.reduceSub, Nat.reduceMul, Nat.reduceLT, Nat.reduceLeDiff, reduceCtorEq, Int.reduceToNat])) | ((first | ((first | refine qe ?_ ?_ | refine qd ?_ ?_) <;> intro hc <;> (try simp only [hc]) <;> (try simp only [qb, qa, decide_eq_true_eq, decide_eq_false_iff_not, Bool.and_eq_true] at hc)) | refine And.intro (by first | assumption | omega | (have := qf (by assumption); omega) | (unfold qp; omega)) ?_ | simp (disch := omega) only [qc] | simp (disch := omega) only [qo] | refine qcp hx rfl ?_) <;> (try simp only [go_sem, ↓reduceIte, Nat.reduceEqDiff, Nat.reduceAdd, Nat.reduceSub, Nat.reduceMul, Nat.reduceLT, Nat.reduceLeDiff, reduceCtorEq, Int.reduceToNat])))
          all_goals first | (simp only [enc, encs]; done) | (exfalso; omega)
        | some n =>
          rw [if_pos (by rfl)] at i4
          repeat' (first | refine qj ?_ | refine ql ?_ | ((first | refine qn ?_ | refine qk ?_ | refine qu ?_ | refine qh ?_ | refine qg ?_) <;> (try simp (disch := first | omega | (simp only [List.length_set, List.length_append, List.length_cons, List.length_nil]; done) | (simp only [List.length_set, List.length_append, List.length_cons, List.length_nil]; omega)) only [hil, hget, hln, ne_eq, not_true_eq_false, not_false_eq_true, decide_true, decide_false, Option.isSome_none, Option.isSome_some, Option.getD_none, Option.getD_some, go_sem, ↓reduceIte, Nat.reduceEqDiff, Nat.reduceAdd, Nat.reduceSub, Nat.reduceMul, Nat.reduceLT, Nat.reduceLeDiff, reduceCtorEq, Int.reduceToNat])) | ((first | ((first | refine qe ?_ ?_ | refine qd ?_ ?_) <;> intro hc <;> (try simp only [hc]) <;> (try simp only [qb, qa, decide_eq_true_eq, decide_eq_false_iff_not, Bool.and_eq_true] at hc)) | refine And.intro (by first | assumption | omega | (have := qf (by assumption); omega) | (unfold qp; omega)) ?_ | simp (disch := omega) only [qc] | simp (disch := omega) only [qo] | refine qcp hx rfl ?_) <;> (try simp only [go_sem, ↓reduceIte, Nat.reduceEqDiff, Nat.reduceAdd, Nat.reduceSub, Nat.reduceMul, Nat.reduceLT, Nat.reduceLeDiff, reduceCtorEq, Int.reduceToNat])))
          · refine qcd (1, d', [n]) [0, 1, 2, 4] ⟨⟨by simp, g1, by simp only; omega, by simpa using i4, rfl⟩, by simp⟩ rfl (by simp) ?_ ?_ ?_
            all_goals simp only [q3y, hW2, encs, qg1, qgw]
            all_goals simp only [go_sem, ↓reduceIte, Nat.reduceEqDiff, Nat.reduceAdd, Nat.reduceSub, Nat.reduceMul, Nat.reduceLT, Nat.reduceLeDiff, reduceCtorEq, Int.reduceToNat]
            all_goals (try simp only [hab, har, show IntKind.i64.wrap (0 + 1) = ((1 : Nat) : Int) by rfl, and_self, true_and])
            all_goals (try rfl)
          · exfalso; omega
      · have hwn : (w = []) = False := eq_false (fun h => h0 (hw0.1 h))
        have ha : acc ≠ [] := fun h => h0 (by rw [← i5, h]; rfl)
        have hne := qbl ha
        have hik : ifsK d w = qq d w := by rw [ifsK, if_neg (fun h => h0 (hw0.1 h))]
        rw [hik] at i4
        have g1 : (qq d w).1.good := (qr d w).1 i2
        have hr1 := (qr d w).2.1
        have hx := ih (qq d w).1 g1 (by omega)
        have g2 : (rec (qq d w).1).1.good := (hm _).1 g1
        have hr2 := (hm (qq d w).1).2.1
        have hcap : qp (acc.length + 1) 64 := capN (by omega)
        simp only [qby hne, qbz hne, qbm]
        by_cases hwt : (qq d w).2 = true
        · rw [if_pos hwt] at i4
          generalize rec (qq d w).1 = r at *
          obtain ⟨d', o⟩ := r
          simp only at g2 hr2 hx i4
          cases o with
          | none =>
            rw [if_neg (by simp)] at i4
            subst i4
            repeat' (first | refine qj ?_ | refine ql ?_ | ((first | refine qn ?_ | refine qk ?_ | refine qu ?_ | refine qh ?_ | refine qg ?_) <;> (try simp (disch := first | omega | (simp only [List.length_set, List.length_append, List.length_cons, List.length_nil]; done) | (simp only [List.length_set, List.length_append, List.length_cons, List.length_nil]; omega)) only [hil, hwn, Nat.mul_one, hget, hln, ne_eq, not_true_eq_false, not_false_eq_true, decide_true, decide_false, Option.isSome_none, Option.isSome_some, Option.getD_none, Option.getD_some, hwt, go_sem, ↓reduceIte, Nat.reduceEqDiff, Nat.reduceAdd, Nat.reduceSub, Nat.reduceMul, Nat.reduceLT, Nat.reduceLeDiff, reduceCtorEq, Int.reduceToNat])) | ((first | ((first | refine qe ?_ ?_ | refine qd ?_ ?_) <;> intro hc <;> (try simp only [hc]) <;> (try simp only [qb, qa, decide_eq_true_eq, decide_eq_false_iff_not, Bool.and_eq_true] at hc)) | refine And.intro (by first | assumption | omega | (have := qf (by assumption); omega) | (unfold qp; omega)) ?_ | simp (disch := omega) only [qc] | simp (disch := omega) only [qo] | refine qcp hx rfl ?_ | refine qce i2.ok ?_) <;> (try simp only [go_sem, ↓reduceIte, Nat.reduceEqDiff, Nat.reduceAdd, Nat.reduceSub, Nat.reduceMul, Nat.reduceLT, Nat.reduceLeDiff, reduceCtorEq, Int.reduceToNat])))
            all_goals (simp only [enc, encs])
          | some n =>
            rw [if_pos (by rfl)] at i4
            repeat' (first | refine qj ?_ | refine ql ?_ | ((first | refine qn ?_ | refine qk ?_ | refine qu ?_ | refine qh ?_ | refine qg ?_) <;> (try simp (disch := first | omega | (simp only [List.length_set, List.length_append, List.length_cons, List.length_nil]; done) | (simp only [List.length_set, List.length_append, List.length_cons, List.length_nil]; omega)) only [hil, hwn, Nat.mul_one, hget, hln, ne_eq, not_true_eq_false, not_false_eq_true, decide_true, decide_false, Option.isSome_none, Option.isSome_some, Option.getD_none, Option.getD_some, hwt, go_sem, ↓reduceIte, Nat.reduceEqDiff, Nat.reduceAdd, Nat.reduceSub, Nat.reduceMul, Nat.reduceLT, Nat.reduceLeDiff, reduceCtorEq, Int.reduceToNat])) | ((first | ((first | refine qe ?_ ?_ | refine qd ?_ ?_) <;> intro hc <;> (try simp only [hc]) <;> (try simp only [qb, qa, decide_eq_true_eq, decide_eq_false_iff_not, Bool.and_eq_true] at hc)) | refine And.intro (by first | assumption | omega | (have := qf (by assumption); omega) | (unfold qp; omega)) ?_ | simp (disch := omega) only [qc] | simp (disch := omega) only [qo] | refine qcp hx rfl ?_ | refine qce i2.ok ?_) <;> (try simp only [go_sem, ↓reduceIte, Nat.reduceEqDiff, Nat.reduceAdd, Nat.reduceSub, Nat.reduceMul, Nat.reduceLT, Nat.reduceLeDiff, reduceCtorEq, Int.reduceToNat])))
            refine qcd (i + 1, d', acc ++ [n]) [0, 1, 2, 5] ⟨⟨by simp only; omega, g2, by simp only; omega, by simpa using i4, by simp [i5]⟩, by simp only; omega⟩ rfl (by simp) ?_ ?_ ?_
            all_goals simp only [q3y, hW2, ← qt, qfs, qft]
            all_goals simp only [go_sem, ↓reduceIte, Nat.reduceEqDiff, Nat.reduceAdd, Nat.reduceSub, Nat.reduceMul, Nat.reduceLT, Nat.reduceLeDiff, reduceCtorEq, Int.reduceToNat]
            all_goals (try simp only [hab, har, and_self, true_and])
            all_goals (try (rw [qt, qbc, qbw]; exact ⟨rfl, rfl⟩))
            all_goals (try (rw [qo (by unfold maxLen; omega)]))
        · rw [if_neg hwt] at i4
          subst i4
          repeat' (first | refine qj ?_ | refine ql ?_ | ((first | refine qn ?_ | refine qk ?_ | refine qu ?_ | refine qh ?_ | refine qg ?_) <;> (try simp (disch := first | omega | (simp only [List.length_set, List.length_append, List.length_cons, List.length_nil]; done) | (simp only [List.length_set, List.length_append, List.length_cons, List.length_nil]; omega)) only [hil, hwn, Nat.mul_one, hget, hln, ne_eq, not_true_eq_false, not_false_eq_true, decide_true, decide_false, Option.isSome_none, Option.isSome_some, Option.getD_none, Option.getD_some, hwt, go_sem, ↓reduceIte, Nat.reduceEqDiff, Nat.reduceAdd, Nat.reduceSub, Nat.reduceMul, Nat.reduceLT, Nat.reduceLeDiff, reduceCtorEq, Int.reduceToNat])) | ((first | ((first | refine qe ?_ ?_ | refine qd ?_ ?_) <;> intro hc <;> (try simp only [hc]) <;> (try simp only [qb, qa, decide_eq_true_eq, decide_eq_false_iff_not, Bool.and_eq_true] at hc)) | refine And.intro (by first | assumption | omega | (have := qf (by assumption); omega) | (unfold qp; omega)) ?_ | simp (disch := omega) only [qc] | simp (disch := omega) only [qo] | refine qce i2.ok ?_) <;> (try simp only [go_sem, ↓reduceIte, Nat.reduceEqDiff, Nat.reduceAdd, Nat.reduceSub, Nat.reduceMul, Nat.reduceLT, Nat.reduceLeDiff, reduceCtorEq, Int.reduceToNat])))
          all_goals (simp only [enc, encs])
    · obtain rfl : i = 3 := by omega
      have hil : ¬ (3 : Int) < 3 := by omega
      have ha : acc ≠ [] := fun h => by rw [h] at i5; cases i5
      have hne := qbl ha
      rw [show ifsW.drop 3 = [] from rfl, qdt] at i4
      subst i4
      simp only [qby hne, qbz hne, qbm]
      repeat' (first | refine qj ?_ | refine ql ?_ | ((first | refine qn ?_ | refine qk ?_ | refine qu ?_ | refine qh ?_ | refine qg ?_) <;> (try simp (disch := first | omega | (simp only [List.length_set, List.length_append, List.length_cons, List.length_nil]; done) | (simp only [List.length_set, List.length_append, List.length_cons, List.length_nil]; omega)) only [hil, go_sem, ↓reduceIte, Nat.reduceEqDiff, Nat.reduceAdd, Nat.reduceSub, Nat.reduceMul, Nat.reduceLT, Nat.reduceLeDiff, reduceCtorEq, Int.reduceToNat])) | ((first | ((first | refine qe ?_ ?_ | refine qd ?_ ?_) <;> intro hc <;> (try simp only [hc]) <;> (try simp only [qb, qa, decide_eq_true_eq, decide_eq_false_iff_not, Bool.and_eq_true] at hc)) | refine And.intro (by first | assumption | omega | (have := qf (by assumption); omega) | (unfold qp; omega)) ?_ | simp (disch := omega) only [qc] | simp (disch := omega) only [qo]) <;> (try simp only [go_sem, ↓reduceIte, Nat.reduceEqDiff, Nat.reduceAdd, Nat.reduceSub, Nat.reduceMul, Nat.reduceLT, Nat.reduceLeDiff, reduceCtorEq, Int.reduceToNat])))
      all_goals first | (simp only [enc, encs]; done) | (exfalso; omega) | skip
theorem qbbb (c : K) (hg : c.good) (hr : rest c ≤ b) : qcc Try.prog 77 (curE c) (curE (qdn rec c).1) [.ptr 0 0] (resB (qdn rec c).2) := by
  have g1 : (qs c [92]).1.good := (qz _ _).1 hg
  have g2 : (qs c [108, 101, 116]).1.good := (qz _ _).1 hg
  have g3 : (qs c [99, 97, 115, 101]).1.good := (qz _ _).1 hg
  have g4 : (qs c [105, 102]).1.good := (qz _ _).1 hg
  refine qx c0f 1 (by simp) (by simp) ?_
  unfold qdn
  by_cases t1 : (qs c [92]).2 = true
  · rw [if_pos t1]
    have l1 := qcs t1
    by_cases hk : (qw (qs c [92]).1).kind = 1
    · rw [if_pos hk]
      have hl := qtw ih [45, 62] (rest (qs c [92]).1 + 1) _ g1 (by omega) (Nat.lt_succ_self _)
      repeat' (first | refine qj ?_ | refine ql ?_ | ((first | refine qbx ?_ | refine qba ?_ | refine qk ?_ | refine qh ?_ | refine qg ?_) <;> (try simp (disch := first | omega | (simp only [List.length_set, List.length_append, List.length_cons, List.length_nil]; done) | (simp only [List.length_set, List.length_append, List.length_cons, List.length_nil]; omega)) only [t1, hk, ne_eq, not_true_eq_false, decide_false, go_sem, ↓reduceIte, Nat.reduceEqDiff, Nat.reduceAdd, Nat.reduceSub, Nat.reduceMul, Nat.reduceLT, Nat.reduceLeDiff, reduceCtorEq, Int.reduceToNat])) | ((first | ((first | refine qe ?_ ?_ | refine qd ?_ ?_) <;> intro hc <;> (try simp only [hc]) <;> (try simp only [qb, qa, decide_eq_true_eq, decide_eq_false_iff_not, Bool.and_eq_true] at hc)) | refine And.intro (by first | assumption | omega | (have := qf (by assumption); omega) | (unfold qp; omega)) ?_ | simp (disch := omega) only [qc] | simp (disch := omega) only [qo] | refine qb4 ?_ | refine qd5 hg.ok ?_ | refine qj9 hl rfl ?_) <;> (try simp only [go_sem, ↓reduceIte, Nat.reduceEqDiff, Nat.reduceAdd, Nat.reduceSub, Nat.reduceMul, Nat.reduceLT, Nat.reduceLeDiff, reduceCtorEq, Int.reduceToNat])))
    · rw [if_neg hk]
      repeat' (first | refine qj ?_ | refine ql ?_ | ((first | refine qbx ?_ | refine qba ?_ | refine qk ?_ | refine qh ?_ | refine qg ?_) <;> (try simp (disch := first | omega | (simp only [List.length_set, List.length_append, List.length_cons, List.length_nil]; done) | (simp only [List.length_set, List.length_append, List.length_cons, List.length_nil]; omega)) only [t1, hk, ne_eq, not_false_eq_true, decide_true, go_sem, ↓reduceIte, Nat.reduceEqDiff, Nat.reduceAdd, Nat.reduceSub, Nat.reduceMul, Nat.reduceLT, Nat.reduceLeDiff, reduceCtorEq, Int.reduceToNat])) | ((first | ((first | refine qe ?_ ?_ | refine qd ?_ ?_) <;> intro hc <;> (try simp only [hc]) <;> (try simp only [qb, qa, decide_eq_true_eq, decide_eq_false_iff_not, Bool.and_eq_true] at hc)) | refine And.intro (by first | assumption | omega | (have := qf (by assumption); omega) | (unfold qp; omega)) ?_ | simp (disch := omega) only [qc] | simp (disch := omega) only [qo] | refine qb4 ?_ | refine qd5 hg.ok ?_ | refine qfp ?_) <;> (try simp only [go_sem, ↓reduceIte, Nat.reduceEqDiff, Nat.reduceAdd, Nat.reduceSub, Nat.reduceMul, Nat.reduceLT, Nat.reduceLeDiff, reduceCtorEq, Int.reduceToNat])))
      rw [qij]
  · have t1f : (qs c [92]).2 = false := by simpa using t1
    have e1 := qc8 t1f
    rw [if_neg t1]
    by_cases t2 : (qs c [108, 101, 116]).2 = true
    · rw [if_pos t2]
      have l2 := qcs t2
      have hl := qbh8 hm ih (qw c).pos _ g2 (by omega)
      unfold posZ at hl
      repeat' (first | refine qj ?_ | refine ql ?_ | ((first | refine qbx ?_ | refine qba ?_ | refine qk ?_ | refine qh ?_ | refine qg ?_) <;> (try simp (disch := first | omega | (simp only [List.length_set, List.length_append, List.length_cons, List.length_nil]; done) | (simp only [List.length_set, List.length_append, List.length_cons, List.length_nil]; omega)) only [t1f, e1, t2, go_sem, ↓reduceIte, Nat.reduceEqDiff, Nat.reduceAdd, Nat.reduceSub, Nat.reduceMul, Nat.reduceLT, Nat.reduceLeDiff, reduceCtorEq, Int.reduceToNat])) | ((first | ((first | refine qe ?_ ?_ | refine qd ?_ ?_) <;> intro hc <;> (try simp only [hc]) <;> (try simp only [qb, qa, decide_eq_true_eq, decide_eq_false_iff_not, Bool.and_eq_true] at hc)) | refine And.intro (by first | assumption | omega | (have := qf (by assumption); omega) | (unfold qp; omega)) ?_ | simp (disch := omega) only [qc] | simp (disch := omega) only [qo] | refine qb4 ?_ | refine qd5 hg.ok ?_ | refine qj9 hl rfl ?_) <;> (try simp only [go_sem, ↓reduceIte, Nat.reduceEqDiff, Nat.reduceAdd, Nat.reduceSub, Nat.reduceMul, Nat.reduceLT, Nat.reduceLeDiff, reduceCtorEq, Int.reduceToNat])))
    · have t2f : (qs c [108, 101, 116]).2 = false := by simpa using t2
      have e2 := qc8 t2f
      rw [if_neg t2]
      by_cases t3 : (qs c [99, 97, 115, 101]).2 = true
      · rw [if_pos t3]
        have l2 := qcs t3
        have hl := q48 hm ih (qw c).pos _ g3 (by omega)
        unfold posZ at hl
        repeat' (first | refine qj ?_ | refine ql ?_ | ((first | refine qbx ?_ | refine qba ?_ | refine qk ?_ | refine qh ?_ | refine qg ?_) <;> (try simp (disch := first | omega | (simp only [List.length_set, List.length_append, List.length_cons, List.length_nil]; done) | (simp only [List.length_set, List.length_append, List.length_cons, List.length_nil]; omega)) only [t1f, e1, t2f, e2, t3, go_sem, ↓reduceIte, Nat.reduceEqDiff, Nat.reduceAdd, Nat.reduceSub, Nat.reduceMul, Nat.reduceLT, Nat.reduceLeDiff, reduceCtorEq, Int.reduceToNat])) | ((first | ((first | refine qe ?_ ?_ | refine qd ?_ ?_) <;> intro hc <;> (try simp only [hc]) <;> (try simp only [qb, qa, decide_eq_true_eq, decide_eq_false_iff_not, Bool.and_eq_true] at hc)) | refine And.intro (by first | assumption | omega | (have := qf (by assumption); omega) | (unfold qp; omega)) ?_ | simp (disch := omega) only [qc] | simp (disch := omega) only [qo] | refine qb4 ?_ | refine qd5 hg.ok ?_ | refine qj9 hl rfl ?_) <;> (try simp only [go_sem, ↓reduceIte, Nat.reduceEqDiff, Nat.reduceAdd, Nat.reduceSub, Nat.reduceMul, Nat.reduceLT, Nat.reduceLeDiff, reduceCtorEq, Int.reduceToNat])))
      · have t3f : (qs c [99, 97, 115, 101]).2 = false := by simpa using t3
        have e3 := qc8 t3f
        rw [if_neg t3]
        by_cases t4 : (qs c [105, 102]).2 = true
        · rw [if_pos t4]
          have l2 := qcs t4
          have hl := qbqt hm ih (qw c).pos _ g4 (by omega)
          unfold posZ at hl
          repeat' (first | refine qj ?_ | refine ql ?_ | ((first | refine qbx ?_ | refine qba ?_ | refine qk ?_ | refine qh ?_ | refine qg ?_) <;> (try simp (disch := first | omega | (simp only [List.length_set, List.length_append, List.length_cons, List.length_nil]; done) | (simp only [List.length_set, List.length_append, List.length_cons, List.length_nil]; omega)) only [t1f, e1, t2f, e2, t3f, e3, t4, go_sem, ↓reduceIte, Nat.reduceEqDiff, Nat.reduceAdd, Nat.reduceSub, Nat.reduceMul, Nat.reduceLT, Nat.reduceLeDiff, reduceCtorEq, Int.reduceToNat])) | ((first | ((first | refine qe ?_ ?_ | refine qd ?_ ?_) <;> intro hc <;> (try simp only [hc]) <;> (try simp only [qb, qa, decide_eq_true_eq, decide_eq_false_iff_not, Bool.and_eq_true] at hc)) | refine And.intro (by first | assumption | omega | (have := qf (by assumption); omega) | (unfold qp; omega)) ?_ | simp (disch := omega) only [qc] | simp (disch := omega) only [qo] | refine qb4 ?_ | refine qd5 hg.ok ?_ | refine qj9 hl rfl ?_) <;> (try simp only [go_sem, ↓reduceIte, Nat.reduceEqDiff, Nat.reduceAdd, Nat.reduceSub, Nat.reduceMul, Nat.reduceLT, Nat.reduceLeDiff, reduceCtorEq, Int.reduceToNat])))
        · have t4f : (qs c [105, 102]).2 = false := by simpa using t4
          have e4 := qc8 t4f
          rw [if_neg t4]
          have hl := q85 hm ih _ hg hr
          repeat' (first | refine qj ?_ | refine ql ?_ | ((first | refine qbx ?_ | refine qba ?_ | refine qk ?_ | refine qh ?_ | refine qg ?_) <;> (try simp (disch := first | omega | (simp only [List.length_set, List.length_append, List.length_cons, List.length_nil]; done) | (simp only [List.length_set, List.length_append, List.length_cons, List.length_nil]; omega)) only [t1f, e1, t2f, e2, t3f, e3, t4f, e4, go_sem, ↓reduceIte, Nat.reduceEqDiff, Nat.reduceAdd, Nat.reduceSub, Nat.reduceMul, Nat.reduceLT, Nat.reduceLeDiff, reduceCtorEq, Int.reduceToNat])) | ((first | ((first | refine qe ?_ ?_ | refine qd ?_ ?_) <;> intro hc <;> (try simp only [hc]) <;> (try simp only [qb, qa, decide_eq_true_eq, decide_eq_false_iff_not, Bool.and_eq_true] at hc)) | refine And.intro (by first | assumption | omega | (have := qf (by assumption); omega) | (unfold qp; omega)) ?_ | simp (disch := omega) only [qc] | simp (disch := omega) only [qo] | refine qb4 ?_ | refine qd5 hg.ok ?_ | refine qj9 hl rfl ?_) <;> (try simp only [go_sem, ↓reduceIte, Nat.reduceEqDiff, Nat.reduceAdd, Nat.reduceSub, Nat.reduceMul, Nat.reduceLT, Nat.reduceLeDiff, reduceCtorEq, Int.reduceToNat])))
end
end Go.Proofs.Ytfjbmjplnmaclaa
