/- Texts of this proof, joined. -/
import Derived.Test.YtlmcofjcpadmiaaGreatBba

/- expressions: what is read (plain) -/
namespace Go.Proofs.YtlmcofjcpadmiaaGreat
open Go Go.RowKit Go.V
set_option linter.unusedVariables false
set_option linter.unusedSimpArgs false

def qgg (c : K) : Option N :=
 if (qt c).kind = 1 then some (qiu c 21 [])
 else if (qt c).kind = 2 then some (qiu c 22 [])
 else if (qt c).kind = 3 then some (.mk 23 (qt c).pos (qt c).num [] [])
 else none
def begE (c : K) : Bool := (qgg c).isSome || isK c [40]
def qs (rec : K → K × Option N) (c : K) : K × Option N :=
 if (qgg c).isSome = true then (qj c, qgg c)
 else if isK c [40] = true then
  if (qd c).2 = true then
   if (rec (qj (qd c).1)).2.isSome = true then
    if (qx (rec (qj (qd c).1)).1 [41]).2 = true then (qcy (qx (rec (qj (qd c).1)).1 [41]).1, (rec (qj (qd c).1)).2)
    else ((qx (rec (qj (qd c).1)).1 [41]).1, none)
   else ((rec (qj (qd c).1)).1, none)
  else ((qd c).1, none)
 else (qer c 5, none)
abbrev R3 := K × N × Bool
def ofO (r : K × Option N) : R3 := (r.1, r.2.getD N0, r.2.isSome)
def toO (r : R3) : K × Option N := (r.1, if r.2.2 = true then some r.2.1 else none)
def appN (n k : N) : N := .mk 24 n.pos 0 [] [n, k]
def qd3 (rec : K → K × Option N) : Nat → K → N → R3
 | 0, c, n => (c, n, false)
 | f + 1, c, n =>
   if begE c = true then
    if (qs rec c).2.isSome = true then qd3 rec f (qs rec c).1 (appN n ((qs rec c).2.getD N0))
    else ((qs rec c).1, appN n ((qs rec c).2.getD N0), false)
   else (c, n, true)
def qgb (rec : K → K × Option N) (c : K) : R3 :=
 if (qs rec c).2.isSome = true then qd3 rec (rest (qs rec c).1 + 1) (qs rec c).1 ((qs rec c).2.getD N0)
 else ((qs rec c).1, (qs rec c).2.getD N0, false)
def lamN (t : T) (n : N) : N := .mk 25 t.pos 0 t.text [n]
def qb8 (rec : K → K × Option N) (x : List UInt8) : Nat → K → R3
 | 0, c => (c, N0, false)
 | f + 1, c =>
   if (qt c).kind = 1 then ((qb8 rec x f (qj c)).1, lamN (qt c) (qb8 rec x f (qj c)).2.1, (qb8 rec x f (qj c)).2.2)
   else if (qx c x).2 = true then ofO (rec (qx c x).1)
   else ((qx c x).1, N0, false)
def qy3 (k : Int) (t : T) (n : N) : N := .mk k t.pos 0 t.text [n]
def qby (rec : K → K × Option N) (c : K) : K × Option N :=
 if (kindK c 1).2 = true then
  if (qm (kindK c 1).1 [58, 58]).2 = true then
   ((qdz (rest (qm (kindK c 1).1 [58, 58]).1 + 2) (qm (kindK c 1).1 [58, 58]).1).1, (qdz (rest (qm (kindK c 1).1 [58, 58]).1 + 2) (qm (kindK c 1).1 [58, 58]).1).2.map (qy3 32 (qja c 1)))
  else ((qb8 rec [61] (rest (kindK c 1).1 + 1) (kindK c 1).1).1, (toO (qb8 rec [61] (rest (kindK c 1).1 + 1) (kindK c 1).1)).2.map (qy3 31 (qja c 1)))
 else ((kindK c 1).1, none)
abbrev RL := K × List N × Bool
def qbr (rd : K → R3) : Nat → K → List N → RL
 | 0, c, _ => (c, [], false)
 | f + 1, c, acc =>
   if (rd c).2.2 = true then
    if ((qm (rd c).1 [59]).2 && !isK (qm (rd c).1 [59]).1 [125]) = true then qbr rd f (qm (rd c).1 [59]).1 (acc ++ [(rd c).2.1])
    else ((qx (qm (rd c).1 [59]).1 [125]).1, acc ++ [(rd c).2.1], (qx (qm (rd c).1 [59]).1 [125]).2)
   else ((rd c).1, [], false)
def q7 (rd : K → R3) (c : K) : RL :=
 if (qx c [123]).2 = true then qbr rd (rest (qx c [123]).1 + 1) (qx c [123]).1 [] else ((qx c [123]).1, [], false)
def posN (p : Int) : N := .mk 0 p 0 [] []
def letC (rec : K → K × Option N) (p : Int) (l : List N) (w : K × Bool) : R3 :=
 if w.2 = true then ((rec w.1).1, .mk 26 p 0 [] (l ++ [(rec w.1).2.getD N0]), (rec w.1).2.isSome) else (w.1, posN p, false)
def letB (rec : K → K × Option N) (p : Int) (l : RL) : R3 :=
 if l.2.2 = true then letC rec p l.2.1 (qx l.1 [105, 110]) else (l.1, posN p, false)
def qjs (rec : K → K × Option N) (p : Int) (c : K) : R3 := letB rec p (q7 (fun c => ofO (qby rec c)) c)
def altN (p e : N) : N := .mk 15 p.pos 0 [] [p, e]
def altC (rec : K → K × Option N) (p : N) (w : K × Bool) : R3 :=
 if w.2 = true then ((rec w.1).1, altN p ((rec w.1).2.getD N0), (rec w.1).2.isSome) else (w.1, p, false)
def altB (rec : K → K × Option N) (r : K × Option N) : R3 :=
 if r.2.isSome = true then altC rec (r.2.getD N0) (qx r.1 [45, 62]) else (r.1, r.2.getD N0, false)
def qd1 (rec : K → K × Option N) (c : K) : R3 := altB rec (qbz (rest c + 2) c)
def q15 (p : Int) (x : N) (l : RL) : R3 := (l.1, .mk 27 p 0 [] (x :: l.2.1), l.2.2)
def qz0 (rec : K → K × Option N) (p : Int) (x : N) (w : K × Bool) : R3 :=
 if w.2 = true then q15 p x (q7 (qd1 rec) w.1) else (w.1, posN p, false)
def qgo (rec : K → K × Option N) (p : Int) (c : K) : R3 :=
 if (rec c).2.isSome = true then qz0 rec p ((rec c).2.getD N0) (qx (rec c).1 [111, 102]) else ((rec c).1, posN p, false)
def ifsK (c : K) (w : List UInt8) : K × Bool := if w = [] then (c, true) else qx c w
def qdu (rec : K → K × Option N) (p : Int) : List (List UInt8) → K → List N → R3
 | [], c, acc => (c, .mk 28 p 0 [] acc, true)
 | w :: r, c, acc =>
   if (ifsK c w).2 = true then
    if (rec (ifsK c w).1).2.isSome = true then qdu rec p r (rec (ifsK c w).1).1 (acc ++ [(rec (ifsK c w).1).2.getD N0])
    else ((rec (ifsK c w).1).1, .mk 28 p 0 [] acc, false)
   else ((ifsK c w).1, .mk 28 p 0 [] acc, false)
def ifsW : List (List UInt8) := [[], [116, 104, 101, 110], [101, 108, 115, 101]]
def qdx (rec : K → K × Option N) (c : K) : R3 :=
 if (qm c [92]).2 = true then
  if (qt (qm c [92]).1).kind = 1 then qb8 rec [45, 62] (rest (qm c [92]).1 + 1) (qm c [92]).1
  else (qer (qm c [92]).1 5, posN (qt c).pos, false)
 else if (qm c [108, 101, 116]).2 = true then qjs rec (qt c).pos (qm c [108, 101, 116]).1
 else if (qm c [99, 97, 115, 101]).2 = true then qgo rec (qt c).pos (qm c [99, 97, 115, 101]).1
 else if (qm c [105, 102]).2 = true then qdu rec (qt c).pos ifsW (qm c [105, 102]).1 []
 else qgb rec c
def qet : Nat → K → K × Option N
 | 0, c => (c, none)
 | f + 1, c =>
   if (qd c).2 = true then (qcy (qdx (qet f) (qd c).1).1, (toO (qdx (qet f) (qd c).1)).2)
   else ((qd c).1, none)

theorem qoj {c : K} (h : (qgg c).isSome = true) : (qt c).kind ≠ 0 := by
 unfold qgg at h
 split at h
 ·omega
 ·split at h
  ·omega
  ·split at h
   ·omega
   ·cases h
theorem qc8 {c : K} {x : List UInt8} (h : (qm c x).2 = true) : rest (qm c x).1 < rest c := by
 unfold qm at h ⊢
 split at h
 ·rename_i h1
  rw [if_pos h1]
  have := q9 (qdf h1)
  simp only; omega
 ·cases h
theorem qfl {c : K} {x : List UInt8} (h : (qx c x).2 = true) : rest (qx c x).1 < rest c := by
 unfold qx at h ⊢
 split at h
 ·rename_i h1
  rw [if_pos h1]
  have := q9 (qdf h1)
  simp only; omega
 ·cases h
theorem qr4 {c : K} (h : (kindK c 1).2 = true) : rest (kindK c 1).1 < rest c := by
 obtain ⟨h1, h2⟩ := qq5 h
 rw [(q1s h).1]
 have := q9 (c := c) (by omega)
 simp only; omega
section
variable {rec : K → K × Option N} (hm : ∀ c, Mon c (rec c).1)
include hm
theorem qc9 (c : K) : Mon c (qs rec c).1 := by
 unfold qs
 split
 ·exact qcb c
 ·split
  ·split
   ·have h1 := ((qv c).trans (qcb _)).trans (hm _)
    split
    ·split
     ·exact (h1.trans (qn _ _)).trans (qbn _)
     ·exact h1.trans (qn _ _)
    ·exact h1
   ·exact qv c
  ·exact qg1 c 5
theorem qkp {c : K} (h : (qs rec c).2.isSome = true) : rest (qs rec c).1 < rest c := by
 unfold qs at h ⊢
 split at h
 ·rename_i hl
  rw [if_pos hl]
  have := q9 (qoj hl)
  simp only; omega
 ·rename_i hl
  rw [if_neg hl]
  split at h
  ·rename_i hk
   rw [if_pos hk]
   split at h
   ·rename_i he
    rw [if_pos he]
    have hp := q9 (c := (qd c).1) (by rw [qde he]; exact qdf hk)
    have h0 := (qv c).2.1
    have h1 := (hm (qj (qd c).1)).2.1
    split at h
    ·rename_i hr
     rw [if_pos hr]
     have h2 := (qn (rec (qj (qd c).1)).1 [41]).2.1
     split at h
     ·rename_i hw
      rw [if_pos hw]
      have h3 := (qbn (qx (rec (qj (qd c).1)).1 [41]).1).2.1
      simp only; omega
     ·cases h
    ·cases h
   ·cases h
  ·cases h
theorem qnh : ∀ (f : Nat) (c : K) (n : N), Mon c (qd3 rec f c n).1
 | 0, c, n => Mon.refl c
 | f + 1, c, n => by
   rw [qd3]
   split
   ·split
    ·exact (qc9 hm c).trans (qnh f _ _)
    ·exact qc9 hm c
   ·exact Mon.refl c
theorem qza (c : K) : Mon c (qgb rec c).1 := by
 unfold qgb
 split
 ·exact (qc9 hm c).trans (qnh hm _ _ _)
 ·exact qc9 hm c
theorem qg0 (x : List UInt8) : ∀ (f : Nat) (c : K), Mon c (qb8 rec x f c).1
 | 0, c => Mon.refl c
 | f + 1, c => by
   rw [qb8]
   split
   ·exact (qcb c).trans (qg0 x f _)
   ·split
    ·exact (qn c x).trans (hm _)
    ·exact qn c x
theorem qlu (c : K) : Mon c (qby rec c).1 := by
 unfold qby
 split
 ·split
  ·exact ((qed c 1).trans (q8 _ _)).trans (qgz _ _)
  ·exact (qed c 1).trans (qg0 hm _ _ _)
 ·exact qed c 1
theorem qsp {c : K} (h : (qby rec c).2.isSome = true) : rest (qby rec c).1 < rest c := by
 unfold qby at h ⊢
 split at h
 ·rename_i h1
  rw [if_pos h1]
  have h2 := qr4 h1
  split
  ·have h3 := ((q8 (kindK c 1).1 [58, 58]).trans (qgz (rest (qm (kindK c 1).1 [58, 58]).1 + 2) _)).2.1
   simp only; omega
  ·have h3 := (qg0 hm [61] (rest (kindK c 1).1 + 1) (kindK c 1).1).2.1
   simp only; omega
 ·cases h
omit hm in
theorem qkz {rd : K → R3} (hd : ∀ c, Mon c (rd c).1) : ∀ (f : Nat) (c : K) (acc : List N), Mon c (qbr rd f c acc).1
 | 0, c, acc => Mon.refl c
 | f + 1, c, acc => by
   rw [qbr]
   split
   ·split
    ·exact ((hd c).trans (q8 _ _)).trans (qkz hd f _ _)
    ·exact ((hd c).trans (q8 _ _)).trans (qn _ _)
   ·exact hd c
omit hm in
theorem qgi {rd : K → R3} (hd : ∀ c, Mon c (rd c).1) (c : K) : Mon c (q7 rd c).1 := by
 unfold q7
 split
 ·exact (qn c _).trans (qkz hd _ _ _)
 ·exact qn c _
theorem qxf (p : Int) (c : K) : Mon c (qjs rec p c).1 := by
 unfold qjs letB letC
 have h := qgi (rd := fun c => ofO (qby rec c)) (fun c => qlu hm c) c
 split
 ·split
  ·exact (h.trans (qn _ _)).trans (hm _)
  ·exact h.trans (qn _ _)
 ·exact h
theorem qoq (c : K) : Mon c (qd1 rec c).1 := by
 unfold qd1 altB altC
 have h := qeg (rest c + 2) c
 split
 ·split
  ·exact (h.trans (qn _ _)).trans (hm _)
  ·exact h.trans (qn _ _)
 ·exact h
theorem qvj {c : K} (h : (qd1 rec c).2.2 = true) : rest (qd1 rec c).1 < rest c := by
 unfold qd1 altB altC at h ⊢
 have h1 := (qeg (rest c + 2) c).2.1
 split at h
 ·rename_i h2
  rw [if_pos h2]
  split at h
  ·rename_i h3
   rw [if_pos h3]
   have h4 := qfl h3
   have h5 := (hm (qx (qbz (rest c + 2) c).1 [45, 62]).1).2.1
   simp only; omega
  ·cases h
 ·cases h
theorem qul (p : Int) (c : K) : Mon c (qgo rec p c).1 := by
 unfold qgo qz0 q15
 have h := hm c
 split
 ·split
  ·exact (h.trans (qn _ _)).trans (qgi (fun c => qoq hm c) _)
  ·exact h.trans (qn _ _)
 ·exact h
omit hm in
theorem qlh (c : K) (w : List UInt8) : Mon c (ifsK c w).1 := by
 unfold ifsK
 split
 ·exact Mon.refl c
 ·exact qn c w
theorem qow (p : Int) : ∀ (l : List (List UInt8)) (c : K) (acc : List N), Mon c (qdu rec p l c acc).1
 | [], c, acc => Mon.refl c
 | w :: r, c, acc => by
   rw [qdu]
   split
   ·split
    ·exact ((qlh c w).trans (hm _)).trans (qow p r _ _)
    ·exact (qlh c w).trans (hm _)
   ·exact qlh c w
theorem ql4 (c : K) : Mon c (qdx rec c).1 := by
 unfold qdx
 split
 ·split
  ·exact (q8 c _).trans (qg0 hm _ _ _)
  ·exact (q8 c _).trans (qg1 _ 5)
 ·split
  ·exact (q8 c _).trans (qxf hm _ _)
  ·split
   ·exact (q8 c _).trans (qul hm _ _)
   ·split
    ·exact (q8 c _).trans (qow hm _ _ _ _)
    ·exact qza hm c
end
theorem ql9 : ∀ (f : Nat) (c : K), Mon c (qet f c).1
 | 0, c => Mon.refl c
 | f + 1, c => by
   rw [qet]
   split
   ·exact ((qv c).trans (ql4 (ql9 f) _)).trans (qbn _)
   ·exact qv c
set_option maxRecDepth 4000

def resB (r : N × Bool) : AV := .tup [enc r.1, .bool r.2]
attribute [go_sem] resB
theorem q25 (k : Nat) (r : N × Bool) : (resB r).bd k = true := by simp only [resB, AV.bd, AV.bds, qjg, Bool.and_true]
theorem qn9 {P : Program} {f : FuncId} {c c' : K} {L : List Ent} {args : List AV} {r : N × Bool} {Q : List Ent → VO → Prop} (h : qbq P f (curE c) (curE c') args (resB r)) (ha : AV.bds 1 args = true) (hq : Q (curE c' :: L) (.val (resB r))) : VApp P (curE c :: L) (.fn f [] []) args Q :=
 qbh h (qo _ _) (qo _ _) ha (q25 _ _) fun _ => hq
theorem q7m (c : K) : qbq Tryz.prog 198 (curE c) (curE c) [.ptr 0 0] (resP (qgg c)) := by
 refine qk c0dm 1 (by simp) (by simp) ?_
 repeat' (first | refine vs_ ?_ | ((first | refine vr_ ?_ | refine qcx ?_ | refine a_Is ?_ | (refine cs_ ?_ ?_ <;> intro hc) | refine cj_ ?_ | fail) <;> (try refine ev_ ?_)) | with_reducible exact ti_)
 all_goals (unfold qgg qiu; simp_all [enc, encs, N0])
theorem q2q {c : K} {L : List Ent} {Q : List Ent → VO → Prop} (hq : Q (curE c :: L) (.val (resP (qgg c)))) : VApp Tryz.prog (curE c :: L) (.fn 198 [] []) [.ptr 0 0] Q := qcu (q7m c) rfl hq
section
variable {rec : K → K × Option N} {b : Nat} (hm : ∀ c, Mon c (rec c).1) (ih : ∀ c, c.good → rest c < b → qbq Tryz.prog 58 (curE c) (curE (rec c).1) [.ptr 0 0] (resP (rec c).2))
include hm ih
theorem qvy (c : K) (hg : c.good) (hr : rest c ≤ b) : qbq Tryz.prog 197 (curE c) (curE (qs rec c).1) [.ptr 0 0] (resP (qs rec c).2) := by
 have g1 : (qd c).1.good := (qv c).1 hg
 have g2 : (qj (qd c).1).good := (qcb _).1 g1
 have g3 : (rec (qj (qd c).1)).1.good := (hm _).1 g2
 have g4 : (qx (rec (qj (qd c).1)).1 [41]).1.good := (qn _ _).1 g3
 have hrr : isK c [40] = true → (qd c).2 = true → rest (qj (qd c).1) < b := fun h1 h2 => by
  have := q9 (c := (qd c).1) (by rw [qde h2]; exact qdf h1)
  have := (qv c).2.1
  omega
 refine qk c0dn 1 (by simp) (by simp) ?_
 repeat' (first | refine vs_ ?_ | ((first | refine vr_ ?_ | refine q2q ?_ | refine a_Is ?_ | refine qos ?_ | refine qf6 ?_ | refine qhd hg.ok ?_ | refine qhd g1.ok ?_ | refine qcu (ih _ g2 (hrr (by assumption) (by assumption))) rfl ?_ | refine qc4 g3.ok ?_ | refine qd7 g4.2.2 ?_ | (refine cs_ ?_ ?_ <;> intro hc) | refine cj_ ?_ | fail) <;> (try refine ev_ ?_)) | with_reducible exact ti_)
 all_goals (unfold qs; simp only [*, qdg, Int.reduceEq, if_true, if_false, reduceIte, Bool.false_eq_true, Option.getD_none, Option.getD_some, Option.isSome_none, Option.isSome_some, and_self, true_and, and_true]; try rfl)
omit hm ih
def q3t (fl : Bool) (n : N) : Ent := .blk [.int .i64 n.kind, .int .i64 n.pos, .int .i64 n.num, .str n.text, if fl = true then .lit 5 (encs n.kids) else .sl 5 (encs n.kids)]
theorem q9v {P : Program} {fr : Option Nat} {k m : Nat} {a : IC} {Q : VE → AF → List Ent → Prop} {af : AF} {A B : Ent} {L : List Ent} {fl : Bool} {n : N} (h : VI P fr k m a Q af (A :: B :: .blk (enc n).cells :: L)) : VI P fr k m a Q af (A :: B :: q3t fl n :: L) := by
 cases n
 cases fl with
 | false => exact h
 | true =>
   refine qz2 2 4 (.sl 5) (by rfl) ?_
   simp only [List.getD_cons_succ, List.getD_cons_zero, if_true, qti, List.set_cons_succ, List.set_cons_zero]
   exact h
include hm ih
def q0d (x : Bool × Nat × K × N × Bool) : AF × List Ent :=
 (⟨[(0, .ptr 0 0), (2, .ptr 1 0), (4, .ptr 2 0), (5, .bool x.2.2.2.2)], []⟩, [curE x.2.2.1, .blk [.int .i64 0, .int .i64 0, .int .i64 0, .str [], .nils], q3t x.1 x.2.2.2.1])
theorem q9g (c : K) (hg : c.good) (hr : rest c ≤ b) : qbq Tryz.prog 162 (curE c) (curE (qgb rec c).1) [.ptr 0 0] (resB (qgb rec c).2) := by
 refine qk c0do 1 (by simp) (by simp) ?_
 have g0 : (qs rec c).1.good := (qc9 hm c).1 hg
 have hr0 : rest (qs rec c).1 ≤ b := by have := (qc9 hm c).2.1; omega
 generalize htg : qgb rec c = tg
 repeat' (first | refine vs_ ?_ | ((first | refine vr_ ?_ | refine qcu (qvy hm ih _ hg hr) rfl ?_ | (refine cs_ ?_ ?_ <;> intro hc) | refine cj_ ?_ | fail) <;> (try refine ev_ ?_)) | with_reducible exact ti_)
 refine qch (S := Bool × Nat × K × N × Bool) (fun x => x.2.2.1.good ∧ rest x.2.2.1 ≤ b ∧ (x.2.2.2.2 = true → qd3 rec x.2.1 x.2.2.1 x.2.2.2.1 = tg ∧ rest x.2.2.1 < x.2.1) ∧ (x.2.2.2.2 = false → tg = (x.2.2.1, x.2.2.2.1, false)))
  q0d (fun x => if x.2.2.2.2 = true then rest x.2.2.1 + 1 else 0) ?_ ?_
 ·refine qbj (false, rest (qs rec c).1 + 1, (qs rec c).1, (qs rec c).2.getD N0, (qs rec c).2.isSome) [0, 1, 2] ⟨g0, hr0, fun h => ⟨?_, Nat.lt_succ_self _⟩, fun h => ?_⟩ rfl (by simp) ?_ ?_ ?_
  ·simp only at h; rw [← htg, qgb, if_pos h]
  ·simp only at h; rw [← htg, qgb, if_neg (by rw [h]; simp)]
  all_goals simp only [q0d, q3t]
  all_goals (refine ev_ ?_; (try with_reducible exact ti_))
 ·rintro ⟨fl, fu, d, n, ok⟩ ⟨i1, i2, i3, i4⟩
  simp only at i1 i2 i3 i4
  unfold q0d
  refine q9v ?_
  cases ok with
  | false =>
    have i4 := i4 rfl
    subst i4
    repeat' (first | refine vs_ ?_ | ((first | refine vr_ ?_ | (refine cs_ ?_ ?_ <;> intro hc) | refine cj_ ?_ | fail) <;> (try refine ev_ ?_)) | with_reducible exact ti_)
  | true =>
    obtain ⟨i3, i5⟩ := i3 rfl
    clear i4
    obtain ⟨fu, rfl⟩ : ∃ k, fu = k + 1 := ⟨fu - 1, by omega⟩
    rw [qd3] at i3
    have j1 : (qs rec d).1.good := (qc9 hm d).1 i1
    have j2 : rest (qs rec d).1 ≤ rest d := (qc9 hm d).2.1
    have key : begE d = true → (((qs rec d).2.isSome = true → qd3 rec fu (qs rec d).1 (appN n ((qs rec d).2.getD N0)) = tg ∧ rest (qs rec d).1 < fu) ∧ ((qs rec d).2.isSome = false → tg = ((qs rec d).1, appN n ((qs rec d).2.getD N0), false))) ∧
     (if (qs rec d).2.isSome = true then rest (qs rec d).1 + 1 else 0) < rest d + 1 := fun hb => by
     rw [if_pos hb] at i3
     refine ⟨⟨fun h => ?_, fun h => ?_⟩, ?_⟩
     ·rw [if_pos h] at i3
      have := qkp hm h
      exact ⟨i3, by omega⟩
     ·rw [if_neg (by rw [h]; simp)] at i3
      exact i3.symm
     ·split
      ·rename_i h
       have := qkp hm h
       omega
      ·omega
    have e1 : (qgg d).isSome = true → begE d = true := fun h => by rw [begE, h]; rfl
    have e2 : isK d [40] = true → begE d = true := fun h => by rw [begE, h, Bool.or_true]
    repeat' (first | refine vs_ ?_ | ((first | refine vr_ ?_ | refine q2q ?_ | refine a_Is ?_ | refine qcu (qvy hm ih _ i1 i2) rfl ?_ | (refine cs_ ?_ ?_ <;> intro hc) | refine cj_ ?_ | fail) <;> (try refine ev_ ?_)) | with_reducible exact ti_)
    ·have hb : ¬ begE d = true := by rw [begE]; simp_all
     rw [if_neg hb] at i3
     subst i3
     exact ⟨rfl, rfl⟩
    ·obtain ⟨k1, k2⟩ := key (e2 (by assumption))
     refine qbj (true, fu, (qs rec d).1, appN n ((qs rec d).2.getD N0), (qs rec d).2.isSome) [0, 1, 2] ⟨⟨j1, by simp only; omega, k1⟩, by simpa using k2⟩ rfl (by simp) ?_ ?_ ?_
     all_goals simp only [q0d, q3t, appN, encs, N.kind, N.pos, N.num, N.text, N.kids]
     all_goals (refine ev_ ?_; (try with_reducible exact ti_))
    ·obtain ⟨k1, k2⟩ := key (e1 (by assumption))
     refine qbj (true, fu, (qs rec d).1, appN n ((qs rec d).2.getD N0), (qs rec d).2.isSome) [0, 1, 2] ⟨⟨j1, by simp only; omega, k1⟩, by simpa using k2⟩ rfl (by simp) ?_ ?_ ?_
     all_goals simp only [q0d, q3t, appN, encs, N.kind, N.pos, N.num, N.text, N.kids]
     all_goals (refine ev_ ?_; (try with_reducible exact ti_))
end
set_option maxRecDepth 4000

theorem qt7 (t : T) (n : N) : AV.agg [.int .i64 25, .int .i64 t.pos, .int .i64 0, .str t.text, .sl 5 [enc n]] = enc (lamN t n) := by simp only [lamN, enc, encs]
theorem qh1 (k : Int) (t : T) (n : N) : AV.agg [.int .i64 k, .int .i64 t.pos, .int .i64 0, .str t.text, .sl 5 [enc n]] = enc (qy3 k t n) := by simp only [qy3, enc, encs]
section
variable {rec : K → K × Option N} {b : Nat} (ih : ∀ c, c.good → rest c < b → qbq Tryz.prog 58 (curE c) (curE (rec c).1) [.ptr 0 0] (resP (rec c).2))
include ih
theorem qqo (x : List UInt8) : ∀ (f : Nat) (c : K), c.good → rest c ≤ b → rest c < f → qbq Tryz.prog 158 (curE c) (curE (qb8 rec x f c).1) [.ptr 0 0, .str x] (resB (qb8 rec x f c).2)
 | 0, c => fun _ _ h => absurd h (by omega)
 | f + 1, c => fun hg hb hf => by
   have g1 : (qj c).good := (qcb c).1 hg
   have g2 : (qx c x).1.good := (qn c x).1 hg
   refine qk c0dk 1 (by simp) (by simp) ?_
   by_cases hk : (qt c).kind = 1
   ·have hrn := q9 (c := c) (by omega)
    have hl := qqo x f (qj c) g1 (by omega) (by omega)
    have hpa : qb8 rec x (f + 1) c = ((qb8 rec x f (qj c)).1, lamN (qt c) (qb8 rec x f (qj c)).2.1, (qb8 rec x f (qj c)).2.2) := by rw [qb8, if_pos hk]
    rw [hpa]
    clear hpa
    generalize qb8 rec x f (qj c) = r at *
    repeat' (first | refine vs_ ?_ | ((first | refine vr_ ?_ | fail) <;> (try simp only [hk, ne_eq, not_true_eq_false, decide_false, go_sem, ↓reduceIte])) | ((first | (refine cs_ ?_ ?_ <;> intro hc) | refine cj_ ?_ | fail | refine qcx ?_ | refine qhd hg.ok ?_ | refine qn9 hl rfl ?_) <;> (try refine ev_ ?_)) | with_reducible exact ti_)
    all_goals first | (rw [qt7]; done) | (rw [qt7]; rfl) | (rw [qt7]; exact ⟨rfl, rfl⟩)
   ·by_cases hw : (qx c x).2 = true
    ·have hlt := qfl hw
     have hpa : qb8 rec x (f + 1) c = ofO (rec (qx c x).1) := by rw [qb8, if_neg hk, if_pos hw]
     rw [hpa, ofO]
     repeat' (first | refine vs_ ?_ | ((first | refine vr_ ?_ | fail) <;> (try simp only [hk, hw, ne_eq, not_false_eq_true, decide_true, go_sem, ↓reduceIte])) | ((first | (refine cs_ ?_ ?_ <;> intro hc) | refine cj_ ?_ | fail | refine qcx ?_ | refine qc4 hg.ok ?_ | refine qcu (ih _ g2 (by omega)) rfl ?_) <;> (try refine ev_ ?_)) | with_reducible exact ti_)
    ·have hpa : qb8 rec x (f + 1) c = ((qx c x).1, N0, false) := by rw [qb8, if_neg hk, if_neg hw]
     rw [hpa]
     repeat' (first | refine vs_ ?_ | ((first | refine vr_ ?_ | fail) <;> (try simp only [hk, hw, ne_eq, not_false_eq_true, decide_true, go_sem, ↓reduceIte])) | ((first | (refine cs_ ?_ ?_ <;> intro hc) | refine cj_ ?_ | fail | refine qcx ?_ | refine qc4 hg.ok ?_) <;> (try refine ev_ ?_)) | with_reducible exact ti_)
     all_goals first | (rw [qdg]; done) | (rw [qdg]; rfl) | (rw [qdg]; exact ⟨rfl, rfl⟩)
theorem qxz (c : K) (hg : c.good) (hr : rest c ≤ b) : qbq Tryz.prog 108 (curE c) (curE (qby rec c).1) [.ptr 0 0] (resP (qby rec c).2) := by
 have g1 : (kindK c 1).1.good := (qed c 1).1 hg
 have hr1 : rest (kindK c 1).1 ≤ b := by have := (qed c 1).2.1; omega
 have g2 : (qm (kindK c 1).1 [58, 58]).1.good := (q8 _ _).1 g1
 have hl := qqo ih [61] (rest (kindK c 1).1 + 1) (kindK c 1).1 g1 hr1 (Nat.lt_succ_self _)
 have hq := qo8 (rest (qm (kindK c 1).1 [58, 58]).1 + 2) (qm (kindK c 1).1 [58, 58]).1 g2 (by omega)
 have ht0 : (qm (kindK c 1).1 [58, 58]).2 = false → (qm (kindK c 1).1 [58, 58]).1 = (kindK c 1).1 := fun h => qdm h
 refine qk c0dl 1 (by simp) (by simp) ?_
 unfold qby
 generalize qb8 rec [61] (rest (kindK c 1).1 + 1) (kindK c 1).1 = r at *
 generalize qdz (rest (qm (kindK c 1).1 [58, 58]).1 + 2) (qm (kindK c 1).1 [58, 58]).1 = q at *
 by_cases hk : (kindK c 1).2 = true
 ·rw [if_pos hk]
  by_cases ht : (qm (kindK c 1).1 [58, 58]).2 = true
  ·rw [if_pos ht]
   cases ho : q.2 with
   | none =>
     rw [ho] at hq
     repeat' (first | refine vs_ ?_ | ((first | refine vr_ ?_ | fail) <;> (try simp (disch := first | omega | (simp only [List.length_set, List.length_append, List.length_cons, List.length_nil]; done) | (simp only [List.length_set, List.length_append, List.length_cons, List.length_nil]; omega)) only [hk, ht, Option.isSome_none, Option.getD_none, go_sem, ↓reduceIte])) | ((first | (refine cs_ ?_ ?_ <;> intro hc) | refine cj_ ?_ | fail | refine qpe hg.ok ?_ | refine qdv g1.ok ?_ | refine qcu hq rfl ?_) <;> (try refine ev_ ?_)) | with_reducible exact ti_)
     all_goals first | (rw [qdg]; done) | (rw [qdg]; rfl) | (rw [qdg]; exact ⟨rfl, rfl⟩)
   | some n =>
     rw [ho] at hq
     repeat' (first | refine vs_ ?_ | ((first | refine vr_ ?_ | fail) <;> (try simp (disch := first | omega | (simp only [List.length_set, List.length_append, List.length_cons, List.length_nil]; done) | (simp only [List.length_set, List.length_append, List.length_cons, List.length_nil]; omega)) only [hk, ht, Option.isSome_some, Option.getD_some, go_sem, ↓reduceIte])) | ((first | (refine cs_ ?_ ?_ <;> intro hc) | refine cj_ ?_ | fail | refine qpe hg.ok ?_ | refine qdv g1.ok ?_ | refine qcu hq rfl ?_) <;> (try refine ev_ ?_)) | with_reducible exact ti_)
     all_goals first | (rw [qh1]; done) | (rw [qh1]; rfl) | (rw [qh1]; exact ⟨rfl, rfl⟩)
  ·rw [if_neg ht]
   have ht : (qm (kindK c 1).1 [58, 58]).2 = false := by simpa using ht
   have ht0 := ht0 ht
   obtain ⟨d, n, ok⟩ := r
   simp only [toO] at hl ⊢
   rw [← ht0] at hl
   cases ok with
   | false =>
     repeat' (first | refine vs_ ?_ | ((first | refine vr_ ?_ | fail) <;> (try simp only [hk, ht, go_sem, ↓reduceIte])) | ((first | (refine cs_ ?_ ?_ <;> intro hc) | refine cj_ ?_ | fail | refine qpe hg.ok ?_ | refine qdv g1.ok ?_ | refine qn9 hl rfl ?_) <;> (try refine ev_ ?_)) | with_reducible exact ti_)
     all_goals first | (rw [qdg]; done) | (rw [qdg]; rfl) | (rw [qdg]; exact ⟨rfl, rfl⟩)
   | true =>
     repeat' (first | refine vs_ ?_ | ((first | refine vr_ ?_ | fail) <;> (try simp only [hk, ht, go_sem, ↓reduceIte])) | ((first | (refine cs_ ?_ ?_ <;> intro hc) | refine cj_ ?_ | fail | refine qpe hg.ok ?_ | refine qdv g1.ok ?_ | refine qn9 hl rfl ?_) <;> (try refine ev_ ?_)) | with_reducible exact ti_)
     all_goals first | (rw [qh1]; done) | (rw [qh1]; rfl) | (rw [qh1]; exact ⟨rfl, rfl⟩)
 ·rw [if_neg hk]
  repeat' (first | refine vs_ ?_ | ((first | refine vr_ ?_ | fail) <;> (try simp only [hk, go_sem, ↓reduceIte])) | ((first | (refine cs_ ?_ ?_ <;> intro hc) | refine cj_ ?_ | fail | refine qpe hg.ok ?_) <;> (try refine ev_ ?_)) | with_reducible exact ti_)
  all_goals first | (rw [qdg]; done) | (rw [qdg]; rfl) | (rw [qdg]; exact ⟨rfl, rfl⟩)
end
set_option maxRecDepth 4000

def VClo (g : FuncId) (c c' : K) (r : N × Bool) : Prop := VCalls Tryz.prog g [curE c, .blk [.ptr 0 0]] [.ptr 1 0] fun H' o => H' = [curE c', .blk [.ptr 0 0]] ∧ o = .val (resB r)
theorem qld (c : K) : [curE c, .blk [.ptr 0 0]].all (Ent.bd 2) = true := by
 simp only [List.all_cons, List.all_nil, qo, Bool.true_and, Bool.and_true]; rfl
theorem qra {g : FuncId} {c c' : K} {r : N × Bool} {L : List Ent} {Q : List Ent → VO → Prop} (h : VClo g c c' r) (hq : Q (curE c' :: .blk [.ptr 0 0] :: L) (.val (resB r))) : VApp Tryz.prog (curE c :: .blk [.ptr 0 0] :: L) (.fn g [] [.ptr 1 0]) [] Q :=
 qeq (first := []) (caps := [.ptr 1 0]) (by
  simp only [List.nil_append]
  refine qh6 (H0 := [curE c, .blk [.ptr 0 0]]) (L := L) h (qld c) rfl ?_
  rintro H1 o ⟨rfl, rfl⟩
  exact ⟨rfl, qld c', q25 _ _, hq⟩)
def qlf (rd : K → R3) (g : FuncId) (c : K) : Prop := VCalls Tryz.prog 194 [curE c, .blk [.ptr 0 0]] [.ptr 0 0, .fn g [] [.ptr 1 0]] fun H' o =>
 H' = curE (q7 rd c).1 :: .blk [.ptr 0 0] :: accE 5 (encs (q7 rd c).2.1) ∧ o = .val (.tup [accV 2 (encs (q7 rd c).2.1), .bool (q7 rd c).2.2])
def qsq (g : FuncId) (x : Nat × K × List N) : AF × List Ent :=
 (⟨[(0, .ptr 0 0), (1, .fn g [] [.ptr 1 0]), (6, accV 2 (encs x.2.2))], []⟩, curE x.2.1 :: .blk [.ptr 0 0] :: accE 5 (encs x.2.2))
theorem qwk {rd : K → R3} {g : FuncId} {b : Nat} (hd : ∀ c, Mon c (rd c).1) (hl : ∀ c, (rd c).2.2 = true → rest (rd c).1 < rest c) (ih : ∀ c, c.good → rest c ≤ b → VClo g c (rd c).1 (rd c).2) (c : K) (hg : c.good) (hr : rest c ≤ b) : qlf rd g c := by
 unfold qlf
 obtain ⟨kk, hk1, hk2, hk0⟩ : ∃ k : Nat, ((q7 rd c).2.1 = [] → k = 2) ∧ ((q7 rd c).2.1 ≠ [] → k = 3) ∧ 2 ≤ k := by
  by_cases h : (q7 rd c).2.1 = []
  ·exact ⟨2, fun _ => rfl, fun g => absurd h g, by omega⟩
  ·exact ⟨3, fun g => absurd g h, fun _ => rfl, by omega⟩
 refine qia c0dj kk (by simpa using hk0) (by simp) ?_
 have g1 : (qx c [123]).1.good := (qn c _).1 hg
 have hr1 : rest (qx c [123]).1 ≤ b := by have := (qn c [123]).2.1; omega
 by_cases hw : (qx c [123]).2 = true
 ·have hpa : q7 rd c = qbr rd (rest (qx c [123]).1 + 1) (qx c [123]).1 [] := by rw [q7, if_pos hw]
  rw [hpa] at hk1 hk2 ⊢
  clear hpa
  generalize htg : qbr rd (rest (qx c [123]).1 + 1) (qx c [123]).1 [] = tg at hk1 hk2 ⊢
  repeat' (first | refine vs_ ?_ | ((first | refine vr_ ?_ | fail) <;> (try simp only [hw, go_sem, ↓reduceIte])) | ((first | (refine cs_ ?_ ?_ <;> intro hc) | refine cj_ ?_ | fail | refine qc4 hg.ok ?_) <;> (try refine ev_ ?_)) | with_reducible exact ti_)
  refine qch (S := Nat × K × List N) (fun x => x.2.1.good ∧ rest x.2.1 ≤ b ∧ qbr rd x.1 x.2.1 x.2.2 = tg ∧ rest x.2.1 < x.1 ∧ x.2.2.length + rest x.2.1 ≤ 1048577)
   (qsq g) (fun x => rest x.2.1) ?_ ?_
  ·refine qbj (rest (qx c [123]).1 + 1, (qx c [123]).1, []) [0, 1] ⟨g1, hr1, htg, Nat.lt_succ_self _, ?_⟩ rfl (by simp) ?_ ?_ ?_
   ·have h9 := g1.rest
    unfold rest
    simp only [List.length_nil]
    omega
   all_goals simp only [qsq, encs, qbu, qb0]
   all_goals (refine ev_ ?_; (try with_reducible exact ti_))
  ·rintro ⟨fu, d, acc⟩ ⟨i1, i2, i3, i4, i5⟩
   simp only at i1 i2 i3 i4 i5
   obtain ⟨fu, rfl⟩ : ∃ k, fu = k + 1 := ⟨fu - 1, by omega⟩
   rw [qbr] at i3
   have hcap : qfo (acc.length + 1) 64 := capN (by omega)
   have hclo := ih d i1 i2
   have hlt := hl d
   have j1 : (rd d).1.good := (hd d).1 i1
   have j2 := (hd d).2.1
   generalize rd d = r at *
   obtain ⟨d', n, ok⟩ := r
   simp only at j1 j2 hlt i3 hclo
   unfold qsq qz6
   generalize h9 : q0g = R9
   cases ok with
   | false =>
     rw [if_neg (by simp)] at i3
     subst i3
     obtain rfl := hk1 rfl
     by_cases h0 : acc = []
     ·subst h0
      simp only [encs, qbu, qb0]
      repeat' (first | refine vs_ ?_ | ((first | refine vr_ ?_ | refine qra hclo ?_ | (refine cs_ ?_ ?_ <;> intro hc) | refine cj_ ?_ | fail) <;> (try refine ev_ ?_)) | with_reducible exact ti_)
      all_goals first | exact ⟨rfl, rfl⟩
     ·have hne := qci h0
      simp only [qcd hne, qce hne, qbs]
      repeat' (first | refine vs_ ?_ | ((first | refine vr_ ?_ | refine qra hclo ?_ | (refine cs_ ?_ ?_ <;> intro hc) | refine cj_ ?_ | fail) <;> (try refine ev_ ?_)) | with_reducible exact ti_)
      all_goals first | exact ⟨rfl, rfl⟩
   | true =>
     have hlt := hlt rfl
     rw [if_pos rfl] at i3
     by_cases h0 : acc = []
     ·subst h0
      simp only [encs, qbu, qb0]
      repeat' (first | refine vs_ ?_ | ((first | refine vr_ ?_ | refine qra hclo ?_ | (refine cs_ ?_ ?_ <;> intro hc) | refine cj_ ?_ | fail) <;> (try refine ev_ ?_)) | with_reducible exact ti_)
      refine qbof (af' := ⟨[(0, .ptr 0 0), (1, .fn g [] [.ptr 1 0]), (6, .row 2 1)], []⟩) (H' := [curE d', .blk [.ptr 0 0], .app 5 (encs ([] ++ [n]))]) ?_ (qbi5 [0, 1, 3] rfl (by simp) ?_ ?_ ?_)
      rotate_left
      all_goals (try simp only [← qr, List.nil_append, encs, List.length_nil])
      all_goals (try (refine ev_ ?_; (try with_reducible exact ti_)))
      all_goals (try (rw [qr, qcf, qdc]; exact ⟨rfl, rfl⟩))
      subst h9
      have hta : (qm d' [59]).1.good := (q8 _ _).1 j1
      have htr := (q8 d' [59]).2.1
      have hne3 : ¬ [] ++ [n] = [] := by simp
      have hlen : ([] ++ [n]).length = 1 := by simp
      repeat' (first | refine vs_ ?_ | ((first | refine vr_ ?_ | refine qdv j1.ok ?_ | refine a_Is ?_ | refine qc4 hta.ok ?_ | (refine cs_ ?_ ?_ <;> intro hc) | refine cj_ ?_ | fail) <;> (try refine ev_ ?_)) | with_reducible exact ti_)
      ·have ht : (qm d' [59]).2 = false := by assumption
       rw [ht, Bool.false_and, if_neg (by simp)] at i3
       subst i3
       obtain rfl := hk2 (by simp)
       simp only [qce (qci hne3), qcd (qci hne3), qbs, hlen, ← qr]
       (refine ev_ ?_; (try with_reducible exact ti_))
       all_goals first | (rw [qr]; exact qcf _ _) | exact ⟨rfl, rfl⟩ | rfl | (rw [qr, qcf, qdc]; exact ⟨rfl, rfl⟩)
      ·have ht : (qm d' [59]).2 = true := by assumption
       have hi : isK (qm d' [59]).1 [125] = true := by assumption
       rw [ht, hi, Bool.true_and, Bool.not_true, if_neg (by simp)] at i3
       subst i3
       obtain rfl := hk2 (by simp)
       simp only [qce (qci hne3), qcd (qci hne3), qbs, hlen, ← qr]
       (refine ev_ ?_; (try with_reducible exact ti_))
       all_goals first | (rw [qr]; exact qcf _ _) | exact ⟨rfl, rfl⟩ | rfl | (rw [qr, qcf, qdc]; exact ⟨rfl, rfl⟩)
      ·have ht : (qm d' [59]).2 = true := by assumption
       have hi : isK (qm d' [59]).1 [125] = false := by assumption
       rw [ht, hi, Bool.true_and, Bool.not_false, if_pos rfl] at i3
       have htl := qc8 ht
       refine qbj (fu, (qm d' [59]).1, [] ++ [n]) [0, 1, 2] ⟨⟨hta, by simp only; omega, i3, by simp only; omega, by simp only [hlen]; omega⟩, by simp only; omega⟩ rfl (by simp) ?_ ?_ ?_
       all_goals simp only [qsq, qce (qci hne3), qcd (qci hne3), qbs, hlen, ← qr]
       all_goals (refine ev_ ?_; (try with_reducible exact ti_))
       all_goals first | (rw [qr]; exact qcf _ _) | exact ⟨rfl, rfl⟩ | rfl | (rw [qr, qcf, qdc]; exact ⟨rfl, rfl⟩)
     ·have hne := qci h0
      simp only [qcd hne, qce hne, qbs]
      repeat' (first | refine vs_ ?_ | ((first | refine vr_ ?_ | refine qra hclo ?_ | (refine cs_ ?_ ?_ <;> intro hc) | refine cj_ ?_ | fail) <;> (try refine ev_ ?_)) | with_reducible exact ti_)
      refine qbof (af' := ⟨[(0, .ptr 0 0), (1, .fn g [] [.ptr 1 0]), (6, .row 2 (acc.length + 1))], []⟩) (H' := [curE d', .blk [.ptr 0 0], .app 5 (encs (acc ++ [n]))]) ?_ (qbi5 [0, 1, 4] rfl (by simp) ?_ ?_ ?_)
      rotate_left
      all_goals (try simp only [← qr, List.nil_append, encs, List.length_nil])
      all_goals (try (refine ev_ ?_; (try with_reducible exact ti_)))
      all_goals (try (rw [qr, qcf, qdc]; exact ⟨rfl, rfl⟩))
      subst h9
      have hta : (qm d' [59]).1.good := (q8 _ _).1 j1
      have htr := (q8 d' [59]).2.1
      have hne3 : ¬ acc ++ [n] = [] := by simp
      have hlen : (acc ++ [n]).length = acc.length + 1 := by simp
      repeat' (first | refine vs_ ?_ | ((first | refine vr_ ?_ | refine qdv j1.ok ?_ | refine a_Is ?_ | refine qc4 hta.ok ?_ | (refine cs_ ?_ ?_ <;> intro hc) | refine cj_ ?_ | fail) <;> (try refine ev_ ?_)) | with_reducible exact ti_)
      ·have ht : (qm d' [59]).2 = false := by assumption
       rw [ht, Bool.false_and, if_neg (by simp)] at i3
       subst i3
       obtain rfl := hk2 (by simp)
       simp only [qce (qci hne3), qcd (qci hne3), qbs, hlen, ← qr]
       (refine ev_ ?_; (try with_reducible exact ti_))
       all_goals first | (rw [qr]; exact qcf _ _) | exact ⟨rfl, rfl⟩ | rfl | (rw [qr, qcf, qdc]; exact ⟨rfl, rfl⟩)
      ·have ht : (qm d' [59]).2 = true := by assumption
       have hi : isK (qm d' [59]).1 [125] = true := by assumption
       rw [ht, hi, Bool.true_and, Bool.not_true, if_neg (by simp)] at i3
       subst i3
       obtain rfl := hk2 (by simp)
       simp only [qce (qci hne3), qcd (qci hne3), qbs, hlen, ← qr]
       (refine ev_ ?_; (try with_reducible exact ti_))
       all_goals first | (rw [qr]; exact qcf _ _) | exact ⟨rfl, rfl⟩ | rfl | (rw [qr, qcf, qdc]; exact ⟨rfl, rfl⟩)
      ·have ht : (qm d' [59]).2 = true := by assumption
       have hi : isK (qm d' [59]).1 [125] = false := by assumption
       rw [ht, hi, Bool.true_and, Bool.not_false, if_pos rfl] at i3
       have htl := qc8 ht
       refine qbj (fu, (qm d' [59]).1, acc ++ [n]) [0, 1, 2] ⟨⟨hta, by simp only; omega, i3, by simp only; omega, by simp only [hlen]; omega⟩, by simp only; omega⟩ rfl (by simp) ?_ ?_ ?_
       all_goals simp only [qsq, qce (qci hne3), qcd (qci hne3), qbs, hlen, ← qr]
       all_goals (refine ev_ ?_; (try with_reducible exact ti_))
       all_goals first | (rw [qr]; exact qcf _ _) | exact ⟨rfl, rfl⟩ | rfl | (rw [qr, qcf, qdc]; exact ⟨rfl, rfl⟩)
 ·have hpa : q7 rd c = ((qx c [123]).1, [], false) := by rw [q7, if_neg hw]
  rw [hpa] at hk1 hk2 ⊢
  obtain rfl := hk1 rfl
  repeat' (first | refine vs_ ?_ | ((first | refine vr_ ?_ | fail) <;> (try simp only [hw, go_sem, ↓reduceIte])) | ((first | (refine cs_ ?_ ?_ <;> intro hc) | refine cj_ ?_ | fail | refine qc4 hg.ok ?_) <;> (try refine ev_ ?_)) | with_reducible exact ti_)
  exact ⟨rfl, rfl⟩
set_option maxRecDepth 4000

theorem qks {rd : K → R3} (hd : ∀ c, Mon c (rd c).1) (hl : ∀ c, (rd c).2.2 = true → rest (rd c).1 < rest c) : ∀ (f : Nat) (c : K) (acc : List N), (qbr rd f c acc).2.1.length ≤ acc.length + rest c
 | 0, c, acc => by simp [qbr]
 | f + 1, c, acc => by
   rw [qbr]
   split
   ·rename_i h
    have h1 := hl c h
    split
    ·have h2 := qks hd hl f (qm (rd c).1 [59]).1 (acc ++ [(rd c).2.1])
     have h3 := (q8 (rd c).1 [59]).2.1
     simp only [List.length_append, List.length_cons, List.length_nil] at h2
     omega
    ·simp only [List.length_append, List.length_cons, List.length_nil]; omega
   ·simp
theorem qm1 {rd : K → R3} (hd : ∀ c, Mon c (rd c).1) (hl : ∀ c, (rd c).2.2 = true → rest (rd c).1 < rest c) (c : K) : (q7 rd c).2.1.length ≤ rest c := by
 unfold q7
 split
 ·have h1 := qks hd hl (rest (qx c [123]).1 + 1) (qx c [123]).1 []
  have h2 := (qn c [123]).2.1
  simp only [List.length_nil] at h1
  omega
 ·simp
theorem qmk {rd : K → R3} : ∀ (f : Nat) (c : K) (acc : List N), (qbr rd f c acc).2.2 = true → (qbr rd f c acc).2.1 ≠ []
 | 0, c, acc => fun h => by cases h
 | f + 1, c, acc => fun h => by
   rw [qbr] at h ⊢
   split at h
   ·rename_i h1
    rw [if_pos h1]
    split at h
    ·rename_i h2
     rw [if_pos h2]
     exact qmk f _ _ h
    ·rename_i h2
     rw [if_neg h2]
     simp
   ·cases h
theorem qy0 {rd : K → R3} {c : K} (h : (q7 rd c).2.2 = true) : (q7 rd c).2.1 ≠ [] := by
 unfold q7 at h ⊢
 split at h
 ·rename_i h1
  rw [if_pos h1]
  exact qmk _ _ _ h
 ·cases h
theorem qrx {rd : K → R3} {g : FuncId} {c : K} (h : qlf rd g c) (h0 : (q7 rd c).2.1 = []) {L : List Ent} {Q : List Ent → VO → Prop} (hq : Q (curE (q7 rd c).1 :: .blk [.ptr 0 0] :: L) (.val (.tup [.nils, .bool (q7 rd c).2.2]))) :
 VApp Tryz.prog (curE c :: .blk [.ptr 0 0] :: L) (.fn 194 [] []) [.ptr 0 0, .fn g [] [.ptr 1 0]] Q :=
 qeq (first := []) (caps := []) (by
  simp only [List.nil_append, List.append_nil]
  refine qh6 (H0 := [curE c, .blk [.ptr 0 0]]) (L := L) h (qld c) rfl ?_
  rintro H1 o ⟨rfl, rfl⟩
  rw [h0]
  exact ⟨rfl, qld _, rfl, hq⟩)
theorem qtd {rd : K → R3} {g : FuncId} {c : K} (h : qlf rd g c) (h0 : (q7 rd c).2.1 ≠ []) {L : List Ent} {Q : List Ent → VO → Prop}
 (hq : Q (curE (q7 rd c).1 :: .blk [.ptr 0 0] :: (L ++ [.app 5 (encs (q7 rd c).2.1)])) (.val (.tup [.row (L.length + 2) (q7 rd c).2.1.length, .bool (q7 rd c).2.2]))) :
 VApp Tryz.prog (curE c :: .blk [.ptr 0 0] :: L) (.fn 194 [] []) [.ptr 0 0, .fn g [] [.ptr 1 0]] Q :=
 qeq (first := []) (caps := []) (by
  simp only [List.nil_append, List.append_nil]
  have hne := qci h0
  have hs : AV.rens (sg [0, 1]) [.ptr 0 0, .fn g [] [.ptr 1 0]] = [.ptr 0 0, .fn g [] [.ptr 1 0]] := rfl
  rw [← hs]
  have ha : AV.bds 2 [.ptr 0 0, .fn g [] [.ptr 1 0]] = true := rfl
  have napp_ren : ∀ σ : Nat → Nat, (Ent.app 5 (encs (q7 rd c).2.1)).ren σ = .app 5 (encs (q7 rd c).2.1) := fun σ => Ent.ren_same (m := 0) (fun i hi => by omega) _ (by simp [Ent.bd, qcf])
  have hp : ∀ σ : Nat → Nat, σ 0 = 0 → (Ent.blk [.ptr 0 0]).ren σ = .blk [.ptr 0 0] := fun σ h => by simp [Ent.ren, AV.rens, AV.ren, h]
  refine qd6 (H0 := [curE c, .blk [.ptr 0 0]]) [0, 1] h (by simp) (by simp) rfl ?_ ha ?_
  ·intro j e2 hj
   have hj2 : j < 2 := by have := (List.getElem?_eq_some_iff.1 hj).1; simpa using this
   have : j = 0 ∨ j = 1 := by omega
   rcases this with rfl | rfl
   ·simp only [List.getElem?_cons_zero, Option.some.injEq] at hj
    subst hj
    exact .inr ⟨qo _ _, by rw [qlj]; rfl⟩
   ·simp only [List.getElem?_cons_succ, List.getElem?_cons_zero, Option.some.injEq] at hj
    subst hj
    exact .inr ⟨rfl, rfl⟩
  rintro H1 o ⟨rfl, rfl⟩
  have hq2 : (Ent.blk [.ptr 0 0]).ren (sg' [0, 1] (L.length + 1 + 1)) = .blk [.ptr 0 0] := hp _ rfl
  simp only [qce hne, qcd hne, qbs, List.length_cons, List.length_nil, List.take_succ_cons, List.take_zero, List.map_nil, qbp, List.drop_zero, List.drop_succ_cons, List.map_cons, qlj, napp_ren, hq2, VO.ren, AV.ren, AV.rens, List.set_cons_zero, List.set_cons_succ]
  exact hq)
def posZ (p : Int) : AV := .agg [.int .i64 0, .int .i64 p, .int .i64 0, .str [], .nils]
theorem qke (p : Int) : AV.agg [.int .i64 0, .int .i64 p, .int .i64 0, .str [], .sl 5 []] = enc (posN p) := by simp only [posN, enc, encs]
theorem qt3 (p e : N) : AV.agg [.int .i64 15, .int .i64 p.pos, .int .i64 0, .str [], .sl 5 [enc p, enc e]] = enc (altN p e) := by simp only [altN, enc, encs]
section
variable {rec : K → K × Option N} {b : Nat} (ih : ∀ c, c.good → rest c < b → qbq Tryz.prog 58 (curE c) (curE (rec c).1) [.ptr 0 0] (resP (rec c).2))
include ih
theorem q8c (c : K) (hg : c.good) (hr : rest c ≤ b) : VClo 195 c (ofO (qby rec c)).1 (ofO (qby rec c)).2 := by
 refine qk c0dh 2 (by simp) (by simp) ?_
 repeat' (first | refine vs_ ?_ | ((first | refine vr_ ?_ | refine qcu (qxz ih c hg hr) rfl ?_ | (refine cs_ ?_ ?_ <;> intro hc) | refine cj_ ?_ | fail) <;> (try refine ev_ ?_)) | with_reducible exact ti_)
 exact ⟨rfl, rfl⟩
theorem qx8 (c : K) (hg : c.good) (hr : rest c ≤ b) : VClo 196 c (qd1 rec c).1 (qd1 rec c).2 := by
 have hp := qzp (rest c + 2) c hg (by omega)
 have g1 : (qbz (rest c + 2) c).1.good := (qeg _ c).1 hg
 have hr1 : rest (qbz (rest c + 2) c).1 ≤ b := by have := (qeg (rest c + 2) c).2.1; omega
 refine qk c0di 2 (by simp) (by simp) ?_
 unfold qd1
 generalize qbz (rest c + 2) c = r at *
 obtain ⟨d, o⟩ := r
 simp only at hp g1 hr1 ⊢
 have g2 : (qx d [45, 62]).1.good := (qn _ _).1 g1
 have hlt : (qx d [45, 62]).2 = true → rest (qx d [45, 62]).1 < b := fun h => by have := qfl h; omega
 unfold altB altC
 cases o with
 | none =>
   repeat' (first | refine vs_ ?_ | ((first | refine vr_ ?_ | fail) <;> (try simp (disch := first | omega | (simp only [List.length_set, List.length_append, List.length_cons, List.length_nil]; done) | (simp only [List.length_set, List.length_append, List.length_cons, List.length_nil]; omega)) only [Option.isSome_none, Option.getD_none, go_sem, ↓reduceIte])) | ((first | (refine cs_ ?_ ?_ <;> intro hc) | refine cj_ ?_ | fail | refine qcu hp rfl ?_) <;> (try refine ev_ ?_)) | with_reducible exact ti_)
   all_goals (try rfl)
 | some p =>
   by_cases hw : (qx d [45, 62]).2 = true
   ·have hr := ih _ g2 (hlt hw)
    repeat' (first | refine vs_ ?_ | ((first | refine vr_ ?_ | fail) <;> (try simp (disch := first | omega | (simp only [List.length_set, List.length_append, List.length_cons, List.length_nil]; done) | (simp only [List.length_set, List.length_append, List.length_cons, List.length_nil]; omega)) only [hw, Option.isSome_some, Option.getD_some, go_sem, ↓reduceIte])) | ((first | (refine cs_ ?_ ?_ <;> intro hc) | refine cj_ ?_ | fail | refine qcu hp rfl ?_ | refine qc4 g1.ok ?_ | refine qcu hr rfl ?_) <;> (try refine ev_ ?_)) | with_reducible exact ti_)
    all_goals first | (rw [qt3]; done) | (rw [qt3]; rfl) | (rw [qt3]; exact ⟨rfl, rfl⟩)
   ·repeat' (first | refine vs_ ?_ | ((first | refine vr_ ?_ | fail) <;> (try simp (disch := first | omega | (simp only [List.length_set, List.length_append, List.length_cons, List.length_nil]; done) | (simp only [List.length_set, List.length_append, List.length_cons, List.length_nil]; omega)) only [hw, Option.isSome_some, Option.getD_some, go_sem, ↓reduceIte])) | ((first | (refine cs_ ?_ ?_ <;> intro hc) | refine cj_ ?_ | fail | refine qcu hp rfl ?_ | refine qc4 g1.ok ?_) <;> (try refine ev_ ?_)) | with_reducible exact ti_)
    all_goals (try rfl)
end
set_option maxRecDepth 4000

theorem qblm (p : Int) (l : List N) (k : N) : AV.agg [.int .i64 26, .int .i64 p, .int .i64 0, .str [], .sl 5 (encs l ++ [enc k])] = enc (.mk 26 p 0 [] (l ++ [k])) := by simp only [enc, qr]
section
variable {rec : K → K × Option N} {b : Nat} (hm : ∀ c, Mon c (rec c).1) (ih : ∀ c, c.good → rest c < b → qbq Tryz.prog 58 (curE c) (curE (rec c).1) [.ptr 0 0] (resP (rec c).2))
include hm ih
theorem qbpx (p : Int) (c : K) (hg : c.good) (hr : rest c ≤ b) : qbq Tryz.prog 159 (curE c) (curE (qjs rec p c).1) [.ptr 0 0, posZ p] (resB (qjs rec p c).2) := by
 have hd : ∀ c, Mon c (ofO (qby rec c)).1 := fun c => qlu hm c
 have hl : ∀ c, (ofO (qby rec c)).2.2 = true → rest (ofO (qby rec c)).1 < rest c := fun c h => qsp hm h
 have hS := qwk (g := 195) hd hl (fun c g r => q8c ih c g r) c hg hr
 have hlen := qm1 hd hl c
 have hne := @qy0 (fun c => ofO (qby rec c)) c
 have g1 : (q7 (fun c => ofO (qby rec c)) c).1.good := (qgi hd c).1 hg
 have hr1 : rest (q7 (fun c => ofO (qby rec c)) c).1 ≤ b := by have := (qgi hd c).2.1; omega
 have happ0 := @qrx _ _ _ hS
 have happ1 := @qtd _ _ _ hS
 have hgr := hg.rest
 clear hS hd hl
 refine qk c0dd 1 (by simp) (by simp [posZ]) ?_
 unfold qjs posZ
 generalize q7 (fun c => ofO (qby rec c)) c = L at *
 obtain ⟨d, l, ok⟩ := L
 simp only at hlen hne g1 hr1 happ0 happ1
 have g2 : (qx d [105, 110]).1.good := (qn _ _).1 g1
 have hlt : (qx d [105, 110]).2 = true → rest (qx d [105, 110]).1 < b := fun h => by have := qfl h; omega
 have hcap : qfo (l.length + 1) 64 := capN (by unfold rest at hlen; omega)
 unfold letB letC
 by_cases h0 : l = []
 ·subst h0
  have ok0 : ok = false := by cases ok with | false => rfl | true => exact absurd rfl (hne rfl)
  subst ok0
  repeat' (first | refine vs_ ?_ | ((first | refine vr_ ?_ | refine happ0 rfl ?_ | (refine cs_ ?_ ?_ <;> intro hc) | refine cj_ ?_ | fail) <;> (try refine ev_ ?_)) | with_reducible exact ti_)
  all_goals (try rw [qke])
  all_goals (try exact ⟨rfl, rfl⟩)
 ·cases ok with
  | false =>
    repeat' (first | refine vs_ ?_ | ((first | refine vr_ ?_ | refine happ1 h0 ?_ | (refine cs_ ?_ ?_ <;> intro hc) | refine cj_ ?_ | fail) <;> (try refine ev_ ?_)) | with_reducible exact ti_)
    all_goals (try rw [qke])
    all_goals (try exact ⟨rfl, rfl⟩)
  | true =>
    by_cases hw : (qx d [105, 110]).2 = true
    ·have hr := ih _ g2 (hlt hw)
     repeat' (first | refine vs_ ?_ | ((first | refine vr_ ?_ | fail) <;> (try simp only [hw, go_sem, ↓reduceIte])) | ((first | (refine cs_ ?_ ?_ <;> intro hc) | refine cj_ ?_ | fail | refine happ1 h0 ?_ | refine qc4 g1.ok ?_ | refine qcu hr rfl ?_) <;> (try refine ev_ ?_)) | with_reducible exact ti_)
     all_goals (try rw [qblm])
     all_goals exact ⟨by rw [qr, qcf], rfl⟩
    ·repeat' (first | refine vs_ ?_ | ((first | refine vr_ ?_ | fail) <;> (try simp only [hw, go_sem, ↓reduceIte])) | ((first | (refine cs_ ?_ ?_ <;> intro hc) | refine cj_ ?_ | fail | refine happ1 h0 ?_ | refine qc4 g1.ok ?_) <;> (try refine ev_ ?_)) | with_reducible exact ti_)
     all_goals (try rw [qke])
     all_goals (try exact ⟨rfl, rfl⟩)
theorem q2x (p : Int) (c : K) (hg : c.good) (hr : rest c < b) : qbq Tryz.prog 160 (curE c) (curE (qgo rec p c).1) [.ptr 0 0, posZ p] (resB (qgo rec p c).2) := by
 have hd : ∀ c, Mon c (qd1 rec c).1 := fun c => qoq hm c
 have hl : ∀ c, (qd1 rec c).2.2 = true → rest (qd1 rec c).1 < rest c := fun c h => qvj hm h
 have hx := ih c hg hr
 have g1 : (rec c).1.good := (hm c).1 hg
 have hr1 := (hm c).2.1
 refine qk c0de 1 (by simp) (by simp [posZ]) ?_
 unfold qgo posZ
 generalize rec c = r0 at *
 obtain ⟨d0, o⟩ := r0
 simp only at g1 hr1 hx ⊢
 have g2 : (qx d0 [111, 102]).1.good := (qn _ _).1 g1
 have hr2 : rest (qx d0 [111, 102]).1 ≤ b := by have := (qn d0 [111, 102]).2.1; omega
 have hS := qwk (g := 196) hd hl (fun c g r => qx8 ih c g r) (qx d0 [111, 102]).1 g2 hr2
 have hlen := qm1 hd hl (qx d0 [111, 102]).1
 have happ0 := @qrx _ _ _ hS
 have happ1 := @qtd _ _ _ hS
 have hgr := g2.rest
 clear hS hd hl
 unfold qz0 q15
 cases o with
 | none =>
   repeat' (first | refine vs_ ?_ | ((first | refine vr_ ?_ | fail) <;> (try simp (disch := first | omega | (simp only [List.length_set, List.length_append, List.length_cons, List.length_nil]; done) | (simp only [List.length_set, List.length_append, List.length_cons, List.length_nil]; omega)) only [Option.isSome_none, Option.getD_none, go_sem, ↓reduceIte])) | ((first | (refine cs_ ?_ ?_ <;> intro hc) | refine cj_ ?_ | fail | refine qcu hx rfl ?_) <;> (try refine ev_ ?_)) | with_reducible exact ti_)
   all_goals (try rw [qke])
   all_goals (try exact ⟨rfl, rfl⟩)
 | some x =>
   by_cases hw : (qx d0 [111, 102]).2 = true
   ·generalize q7 (qd1 rec) (qx d0 [111, 102]).1 = L at *
    obtain ⟨d, l, ok⟩ := L
    simp only at hlen happ0 happ1 ⊢
    have hcap : qfo (1 + l.length) 64 := capN (by unfold rest at hlen; omega)
    by_cases h0 : l = []
    ·subst h0
     repeat' (first | refine vs_ ?_ | ((first | refine vr_ ?_ | fail) <;> (try simp (disch := first | omega | (simp only [List.length_set, List.length_append, List.length_cons, List.length_nil]; done) | (simp only [List.length_set, List.length_append, List.length_cons, List.length_nil]; omega)) only [hw, Option.isSome_some, Option.getD_some, go_sem, ↓reduceIte])) | ((first | (refine cs_ ?_ ?_ <;> intro hc) | refine cj_ ?_ | fail | refine qcu hx rfl ?_ | refine qc4 g1.ok ?_ | refine happ0 rfl ?_) <;> (try refine ev_ ?_)) | with_reducible exact ti_)
     all_goals (try simp only [enc, encs])
    ·have hnl : ¬ l.length = 0 := fun h => h0 (List.length_eq_zero_iff.1 h)
     repeat' (first | refine vs_ ?_ | ((first | refine vr_ ?_ | fail) <;> (try simp (disch := first | omega | (simp only [List.length_set, List.length_append, List.length_cons, List.length_nil]; done) | (simp only [List.length_set, List.length_append, List.length_cons, List.length_nil]; omega)) only [hw, hnl, hcap, Option.isSome_some, Option.getD_some, go_sem, ↓reduceIte])) | ((first | (refine cs_ ?_ ?_ <;> intro hc) | refine cj_ ?_ | fail | refine qcu hx rfl ?_ | refine qc4 g1.ok ?_ | refine happ1 h0 ?_) <;> (try refine ev_ ?_)) | with_reducible exact ti_)
     have hcm : l.length + 1 = 1 + l.length := Nat.add_comm _ _
     simp only [hcm, if_true, enc, encs, AV.bd, AV.bds, qjg, qcf, Bool.and_true, and_self]
   ·repeat' (first | refine vs_ ?_ | ((first | refine vr_ ?_ | fail) <;> (try simp (disch := first | omega | (simp only [List.length_set, List.length_append, List.length_cons, List.length_nil]; done) | (simp only [List.length_set, List.length_append, List.length_cons, List.length_nil]; omega)) only [hw, Option.isSome_some, Option.getD_some, go_sem, ↓reduceIte])) | ((first | (refine cs_ ?_ ?_ <;> intro hc) | refine cj_ ?_ | fail | refine qcu hx rfl ?_ | refine qc4 g1.ok ?_) <;> (try refine ev_ ?_)) | with_reducible exact ti_)
    all_goals (try rw [qke])
    all_goals (try exact ⟨rfl, rfl⟩)
def q28 (p : Int) (x : Nat × K × List N) : AF × List Ent :=
 (⟨[(0, .ptr 0 0), (3, .ptr 1 0), (4, .ptr 2 0), (11, .agg (ifsW.map AV.str)), (12, .int .i64 x.1)], []⟩,
   curE x.2.1 :: .blk [.int .i64 28, .int .i64 p, .int .i64 0, .str [], accV 3 (encs x.2.2)] :: .blk [.int .i64 0, .int .i64 0, .int .i64 0, .str [], .nils] :: accE 5 (encs x.2.2))
theorem qboz (p : Int) (c : K) (hg : c.good) (hr : rest c < b) : qbq Tryz.prog 161 (curE c) (curE (qdu rec p ifsW c []).1) [.ptr 0 0, posZ p] (resB (qdu rec p ifsW c []).2) := by
 refine qk c0df 1 (by simp) (by simp [posZ]) ?_
 unfold posZ
 generalize htg : qdu rec p ifsW c [] = tg
 have hW : AV.agg (ifsW.map AV.str) = .agg [.str [], .str [116, 104, 101, 110], .str [101, 108, 115, 101]] := rfl
 repeat' (first | refine vs_ ?_ | ((first | refine vr_ ?_ | (refine cs_ ?_ ?_ <;> intro hc) | refine cj_ ?_ | simp (disch := omega) only [qb, qi]) <;> (try refine ev_ ?_)) | with_reducible exact ti_)
 refine qch (S := Nat × K × List N) (fun x => x.1 ≤ 3 ∧ x.2.1.good ∧ rest x.2.1 < b ∧ qdu rec p (ifsW.drop x.1) x.2.1 x.2.2 = tg ∧ x.2.2.length = x.1)
  (q28 p) (fun x => 3 - x.1) ?_ ?_
 ·refine qbj (0, c, []) [0, 1, 2] ⟨by simp, hg, hr, htg, rfl⟩ rfl (by simp) ?_ ?_ ?_
  all_goals simp only [q28, hW, encs, qbu, qb0]
  all_goals (refine ev_ ?_; (try with_reducible exact ti_))
 ·rintro ⟨i, d, acc⟩ ⟨i1, i2, i3, i4, i5⟩
  simp only at i1 i2 i3 i4 i5
  unfold q28
  by_cases hlt : i < 3
  ·have hil : (i : Int) < 3 := by omega
   have hd := qmf (ls := ifsW) (i := i) (by simpa [ifsW] using hlt)
   rw [hd, qdu] at i4
   have hw0 : ifsW.getD i [] = [] ↔ i = 0 := by
    have : i = 0 ∨ i = 1 ∨ i = 2 := by omega
    rcases this with rfl | rfl | rfl <;> simp [ifsW]
   have hln : (ifsW.map AV.str).length = 3 := rfl
   have hln2 : i < ifsW.length := hlt
   have hget : (ifsW.map AV.str).getD i .junk = .str (ifsW.getD i []) := qsk hln2
   clear hd
   generalize ifsW.getD i [] = w at *
   have hab : ∀ k, AV.bds k (ifsW.map AV.str) = true := fun k => qqs k _
   have har : ∀ σ : Nat → Nat, AV.rens σ (ifsW.map AV.str) = ifsW.map AV.str := fun σ => qxd σ _
   generalize hW2 : ifsW.map AV.str = aw at *
   by_cases h0 : i = 0
   ·subst h0
    have hw : w = [] := hw0.2 rfl
    have ha : acc = [] := List.length_eq_zero_iff.1 i5
    subst hw ha
    have hx := ih d i2 i3
    have g1 : (rec d).1.good := (hm d).1 i2
    have hr1 := (hm d).2.1
    rw [ifsK, if_pos rfl] at i4
    simp only [if_true] at i4
    generalize rec d = r at *
    obtain ⟨d', o⟩ := r
    simp only at g1 hr1 hx i4
    have hcap : qfo 1 64 := capN (by omega)
    simp only [encs, qbu, qb0]
    cases o with
    | none =>
      rw [if_neg (by simp)] at i4
      subst i4
      repeat' (first | refine vs_ ?_ | ((first | refine vr_ ?_ | fail) <;> (try simp (disch := first | omega | (simp only [List.length_set, List.length_append, List.length_cons, List.length_nil]; done) | (simp only [List.length_set, List.length_append, List.length_cons, List.length_nil]; omega)) only [hil, hget, hln, ne_eq, not_true_eq_false, not_false_eq_true, decide_true, decide_false, Option.isSome_none, Option.isSome_some, Option.getD_none, Option.getD_some, go_sem, ↓reduceIte])) | ((first | (refine cs_ ?_ ?_ <;> intro hc) | refine cj_ ?_ | simp (disch := omega) only [qb, qi] | refine qcu hx rfl ?_) <;> (try refine ev_ ?_)) | with_reducible exact ti_)
      all_goals first | (simp only [enc, encs]; done) | (exfalso; omega)
    | some n =>
      rw [if_pos (by rfl)] at i4
      repeat' (first | refine vs_ ?_ | ((first | refine vr_ ?_ | fail) <;> (try simp (disch := first | omega | (simp only [List.length_set, List.length_append, List.length_cons, List.length_nil]; done) | (simp only [List.length_set, List.length_append, List.length_cons, List.length_nil]; omega)) only [hil, hget, hln, ne_eq, not_true_eq_false, not_false_eq_true, decide_true, decide_false, Option.isSome_none, Option.isSome_some, Option.getD_none, Option.getD_some, go_sem, ↓reduceIte])) | ((first | (refine cs_ ?_ ?_ <;> intro hc) | refine cj_ ?_ | simp (disch := omega) only [qb, qi] | refine qcu hx rfl ?_) <;> (try refine ev_ ?_)) | with_reducible exact ti_)
      ·refine qbj (1, d', [n]) [0, 1, 2, 4] ⟨⟨by simp, g1, by simp only; omega, by simpa using i4, rfl⟩, by simp⟩ rfl (by simp) ?_ ?_ ?_
       all_goals simp only [q28, hW2, encs, qfs, qfr]
       all_goals (refine ev_ ?_; (try with_reducible exact ti_))
       all_goals (try simp only [hab, har, show IntKind.i64.wrap (0 + 1) = ((1 : Nat) : Int) by rfl, and_self, true_and])
       all_goals (try rfl)
      ·exfalso; omega
   ·have hwn : (w = []) = False := eq_false (fun h => h0 (hw0.1 h))
    have ha : acc ≠ [] := fun h => h0 (by rw [← i5, h]; rfl)
    have hne := qci ha
    have hik : ifsK d w = qx d w := by rw [ifsK, if_neg (fun h => h0 (hw0.1 h))]
    rw [hik] at i4
    have g1 : (qx d w).1.good := (qn d w).1 i2
    have hr1 := (qn d w).2.1
    have hx := ih (qx d w).1 g1 (by omega)
    have g2 : (rec (qx d w).1).1.good := (hm _).1 g1
    have hr2 := (hm (qx d w).1).2.1
    have hcap : qfo (acc.length + 1) 64 := capN (by omega)
    simp only [qcd hne, qce hne, qbs]
    by_cases hwt : (qx d w).2 = true
    ·rw [if_pos hwt] at i4
     generalize rec (qx d w).1 = r at *
     obtain ⟨d', o⟩ := r
     simp only at g2 hr2 hx i4
     cases o with
     | none =>
       rw [if_neg (by simp)] at i4
       subst i4
       repeat' (first | refine vs_ ?_ | ((first | refine vr_ ?_ | fail) <;> (try simp (disch := first | omega | (simp only [List.length_set, List.length_append, List.length_cons, List.length_nil]; done) | (simp only [List.length_set, List.length_append, List.length_cons, List.length_nil]; omega)) only [hil, hwn, Nat.mul_one, hget, hln, ne_eq, not_true_eq_false, not_false_eq_true, decide_true, decide_false, Option.isSome_none, Option.isSome_some, Option.getD_none, Option.getD_some, hwt, go_sem, ↓reduceIte])) | ((first | (refine cs_ ?_ ?_ <;> intro hc) | refine cj_ ?_ | simp (disch := omega) only [qb, qi] | refine qcu hx rfl ?_ | refine qc4 i2.ok ?_) <;> (try refine ev_ ?_)) | with_reducible exact ti_)
       all_goals (simp only [enc, encs])
     | some n =>
       rw [if_pos (by rfl)] at i4
       repeat' (first | refine vs_ ?_ | ((first | refine vr_ ?_ | fail) <;> (try simp (disch := first | omega | (simp only [List.length_set, List.length_append, List.length_cons, List.length_nil]; done) | (simp only [List.length_set, List.length_append, List.length_cons, List.length_nil]; omega)) only [hil, hwn, Nat.mul_one, hget, hln, ne_eq, not_true_eq_false, not_false_eq_true, decide_true, decide_false, Option.isSome_none, Option.isSome_some, Option.getD_none, Option.getD_some, hwt, go_sem, ↓reduceIte])) | ((first | (refine cs_ ?_ ?_ <;> intro hc) | refine cj_ ?_ | simp (disch := omega) only [qb, qi] | refine qcu hx rfl ?_ | refine qc4 i2.ok ?_) <;> (try refine ev_ ?_)) | with_reducible exact ti_)
       refine qbj (i + 1, d', acc ++ [n]) [0, 1, 2, 5] ⟨⟨by simp only; omega, g2, by simp only; omega, by simpa using i4, by simp [i5]⟩, by simp only; omega⟩ rfl (by simp) ?_ ?_ ?_
       all_goals simp only [q28, hW2, ← qr, qej, qek]
       all_goals (refine ev_ ?_; (try with_reducible exact ti_))
       all_goals (try simp only [hab, har, and_self, true_and])
       all_goals (try (rw [qr, qcf, qdc]; exact ⟨rfl, rfl⟩))
       all_goals (try (rw [qi (by unfold maxLen; omega)]))
    ·rw [if_neg hwt] at i4
     subst i4
     repeat' (first | refine vs_ ?_ | ((first | refine vr_ ?_ | fail) <;> (try simp (disch := first | omega | (simp only [List.length_set, List.length_append, List.length_cons, List.length_nil]; done) | (simp only [List.length_set, List.length_append, List.length_cons, List.length_nil]; omega)) only [hil, hwn, Nat.mul_one, hget, hln, ne_eq, not_true_eq_false, not_false_eq_true, decide_true, decide_false, Option.isSome_none, Option.isSome_some, Option.getD_none, Option.getD_some, hwt, go_sem, ↓reduceIte])) | ((first | (refine cs_ ?_ ?_ <;> intro hc) | refine cj_ ?_ | simp (disch := omega) only [qb, qi] | refine qc4 i2.ok ?_) <;> (try refine ev_ ?_)) | with_reducible exact ti_)
     all_goals (simp only [enc, encs])
  ·obtain rfl : i = 3 := by omega
   have hil : ¬ (3 : Int) < 3 := by omega
   have ha : acc ≠ [] := fun h => by rw [h] at i5; cases i5
   have hne := qci ha
   rw [show ifsW.drop 3 = [] from rfl, qdu] at i4
   subst i4
   simp only [qcd hne, qce hne, qbs]
   repeat' (first | refine vs_ ?_ | ((first | refine vr_ ?_ | fail) <;> (try simp only [hil, go_sem, ↓reduceIte])) | ((first | (refine cs_ ?_ ?_ <;> intro hc) | refine cj_ ?_ | simp (disch := omega) only [qb, qi]) <;> (try refine ev_ ?_)) | with_reducible exact ti_)
   all_goals first | (simp only [enc, encs]; done) | (exfalso; omega) | skip
theorem q5t (c : K) (hg : c.good) (hr : rest c ≤ b) : qbq Tryz.prog 103 (curE c) (curE (qdx rec c).1) [.ptr 0 0] (resB (qdx rec c).2) := by
 have g1 : (qm c [92]).1.good := (q8 _ _).1 hg
 have g2 : (qm c [108, 101, 116]).1.good := (q8 _ _).1 hg
 have g3 : (qm c [99, 97, 115, 101]).1.good := (q8 _ _).1 hg
 have g4 : (qm c [105, 102]).1.good := (q8 _ _).1 hg
 refine qk c0dg 1 (by simp) (by simp) ?_
 unfold qdx
 by_cases t1 : (qm c [92]).2 = true
 ·rw [if_pos t1]
  have l1 := qc8 t1
  by_cases hk : (qt (qm c [92]).1).kind = 1
  ·rw [if_pos hk]
   have hl := qqo ih [45, 62] (rest (qm c [92]).1 + 1) _ g1 (by omega) (Nat.lt_succ_self _)
   repeat' (first | refine vs_ ?_ | ((first | refine vrr_ ?_ | fail) <;> (try simp only [t1, hk, ne_eq, not_true_eq_false, decide_false, go_sem, ↓reduceIte])) | ((first | (refine cs_ ?_ ?_ <;> intro hc) | refine cj_ ?_ | fail | refine qcx ?_ | refine qdv hg.ok ?_ | refine qn9 hl rfl ?_) <;> (try refine ev_ ?_)) | with_reducible exact ti_)
  ·rw [if_neg hk]
   repeat' (first | refine vs_ ?_ | ((first | refine vrr_ ?_ | fail) <;> (try simp only [t1, hk, ne_eq, not_false_eq_true, decide_true, go_sem, ↓reduceIte])) | ((first | (refine cs_ ?_ ?_ <;> intro hc) | refine cj_ ?_ | fail | refine qcx ?_ | refine qdv hg.ok ?_ | refine qb2a ?_) <;> (try refine ev_ ?_)) | with_reducible exact ti_)
   rw [qke]
 ·have t1f : (qm c [92]).2 = false := by simpa using t1
  have e1 := qdm t1f
  rw [if_neg t1]
  by_cases t2 : (qm c [108, 101, 116]).2 = true
  ·rw [if_pos t2]
   have l2 := qc8 t2
   have hl := qbpx hm ih (qt c).pos _ g2 (by omega)
   unfold posZ at hl
   repeat' (first | refine vs_ ?_ | ((first | refine vrr_ ?_ | fail) <;> (try simp only [t1f, e1, t2, go_sem, ↓reduceIte])) | ((first | (refine cs_ ?_ ?_ <;> intro hc) | refine cj_ ?_ | fail | refine qcx ?_ | refine qdv hg.ok ?_ | refine qn9 hl rfl ?_) <;> (try refine ev_ ?_)) | with_reducible exact ti_)
  ·have t2f : (qm c [108, 101, 116]).2 = false := by simpa using t2
   have e2 := qdm t2f
   rw [if_neg t2]
   by_cases t3 : (qm c [99, 97, 115, 101]).2 = true
   ·rw [if_pos t3]
    have l2 := qc8 t3
    have hl := q2x hm ih (qt c).pos _ g3 (by omega)
    unfold posZ at hl
    repeat' (first | refine vs_ ?_ | ((first | refine vrr_ ?_ | fail) <;> (try simp only [t1f, e1, t2f, e2, t3, go_sem, ↓reduceIte])) | ((first | (refine cs_ ?_ ?_ <;> intro hc) | refine cj_ ?_ | fail | refine qcx ?_ | refine qdv hg.ok ?_ | refine qn9 hl rfl ?_) <;> (try refine ev_ ?_)) | with_reducible exact ti_)
   ·have t3f : (qm c [99, 97, 115, 101]).2 = false := by simpa using t3
    have e3 := qdm t3f
    rw [if_neg t3]
    by_cases t4 : (qm c [105, 102]).2 = true
    ·rw [if_pos t4]
     have l2 := qc8 t4
     have hl := qboz hm ih (qt c).pos _ g4 (by omega)
     unfold posZ at hl
     repeat' (first | refine vs_ ?_ | ((first | refine vrr_ ?_ | fail) <;> (try simp only [t1f, e1, t2f, e2, t3f, e3, t4, go_sem, ↓reduceIte])) | ((first | (refine cs_ ?_ ?_ <;> intro hc) | refine cj_ ?_ | fail | refine qcx ?_ | refine qdv hg.ok ?_ | refine qn9 hl rfl ?_) <;> (try refine ev_ ?_)) | with_reducible exact ti_)
    ·have t4f : (qm c [105, 102]).2 = false := by simpa using t4
     have e4 := qdm t4f
     rw [if_neg t4]
     have hl := q9g hm ih _ hg hr
     repeat' (first | refine vs_ ?_ | ((first | refine vrr_ ?_ | fail) <;> (try simp only [t1f, e1, t2f, e2, t3f, e3, t4f, e4, go_sem, ↓reduceIte])) | ((first | (refine cs_ ?_ ?_ <;> intro hc) | refine cj_ ?_ | fail | refine qcx ?_ | refine qdv hg.ok ?_ | refine qn9 hl rfl ?_) <;> (try refine ev_ ?_)) | with_reducible exact ti_)
end
end Go.Proofs.YtlmcofjcpadmiaaGreat
