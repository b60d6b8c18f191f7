/- Texts of this proof, joined. -/
import Derived.Test.YtfjbmjplnmaclaaGreatQaz
import Derived.Test.YtfjbmjplnmaclaaGreatQap
import Derived.Test.YtfjbmjplnmaclaaGreatQat
import Derived.Test.YtfjbmjplnmaclaaGreatQan
import Derived.Test.YtfjbmjplnmaclaaGreatQbf
import Derived.Test.YtfjbmjplnmaclaaGreatQbh
import Derived.Test.YtfjbmjplnmaclaaGreatQbe

/- rows of texts -/
namespace Go.Proofs.YtfjbmjplnmaclaaGreat
open Go Go.RowKit Go.V
set_option linter.unusedVariables false
set_option linter.unusedSimpArgs false
theorem bifT {α : Type} (a b : α) : (bif true then a else b) = a := Eq.trans rfl rfl
theorem bifF {α : Type} (a b : α) : (bif false then a else b) = b := Eq.trans rfl rfl
attribute [go_sem] bifT bifF
set_option maxRecDepth 4000

theorem qmn (c : K) (n : N) : qz Tryz.prog 24 [refC c, enc n] (resV (qkc c n)) := by
 refine qj c0gg (by simp) (by simp only [go_sem]) (by simp only [go_sem]) fun hw => ?_
 repeat' (first | refine vs_ ?_ | ((first | refine vr_ ?_ | refine qa (qt8 c) fun _ => ?_ | refine qa (qbb0 n) fun _ => ?_ | refine qb (qt8 c) ?_ | refine qb (qbb0 n) ?_ | (refine cs_ ?_ ?_ <;> intro hc) | refine cj_ ?_ | fail) <;> (try refine ev_ ?_)) | with_reducible exact ti_)
 all_goals (try rw [qdt])
 all_goals unfold qkc
 all_goals (repeat' split)
 all_goals first | omega | rfl | simp_all [go_sem]
theorem qyc : ∀ n, qyt n n = true := N.ind fun n ih => by
 rw [qj7]
 have key : ∀ l : List N, (∀ x ∈ l, qyt x x = true) → qf0 l l = true := by
  intro l
  induction l with
  | nil => intro _; rw [qf0]
  | cons x r ihr => intro h; rw [qf0, h x (by simp), ihr fun y hy => h y (by simp [hy])]; rfl
 simp [key n.kids ih]


end Go.Proofs.YtfjbmjplnmaclaaGreat

/- declarations: the reference: what is read (plain) -/
namespace Go.Proofs.YtfjbmjplnmaclaaGreat
open Go Go.RowKit Go.V
set_option linter.unusedVariables false
set_option linter.unusedSimpArgs false
set_option linter.unusedSectionVars false

theorem capB {n : Nat} (h : n ≤ 100000000) : qdq n 64 := by unfold qdq; omega
def qb7 (c : K) : K × N := qcq (qcg (rest c + 2)) c
def qfl (c : K) : K × N := qdz (qhb (rest c + 2)) c
def qfc (c : K) : K × List N := qdy (qcg (rest c + 2)) c
def qfb (p : K → Bool) : Nat → K → List N → K × List N
 | 0, c, acc => (c, acc)
 | f + 1, c, acc => if p c = true then qfb p f (qb7 c).1 (acc ++ [(qb7 c).2]) else (c, acc)
def qvd (t : T) (r : K × List N) : K × N := (r.1, conN t r.2)
def qf8 (c : K) : K × N := qvd (qev c 2) (qfb begT (em (qn c 2).1 + 1) (qn c 2).1 [])
def qhg : Nat → K → List N → K × List N
 | 0, c, acc => (c, acc)
 | f + 1, c, acc => if (qf (qf8 c).1 [124]).2 = true then qhg f (qf (qf8 c).1 [124]).1 (acc ++ [(qf8 c).2]) else ((qf (qf8 c).1 [124]).1, acc ++ [(qf8 c).2])
def qwg (p : Int) (t : T) (v : List N) (r : K × List N) : K × N := (r.1, qrv p t v r.2)
def qv6 (p : Int) (t : T) (v : K × List N) : K × N := qwg p t v.2 (qhg (em (qi v.1 [61]).1 + 2) (qi v.1 [61]).1 v.2)
def qjo (p : Int) (c : K) : K × N := qv6 p (qev c 2) (qfb qd8 (em (qn c 2).1 + 1) (qn c 2).1 [])
def qek (kd : Int) (c : K) : K × N := (if (qfl c).1.err = 0 ∧ (qfl c).2.kind ≠ kd then qdh (qfl c).1 5 else (qfl c).1, (qfl c).2)
def qgc (kd : Int) : Nat → K → List N → K × List N
 | 0, c, acc => (c, acc)
 | f + 1, c, acc => if (qb1 (qek kd c).1).2 = true then qgc kd f (qb1 (qek kd c).1).1 (acc ++ [(qek kd c).2]) else ((qb1 (qek kd c).1).1, acc ++ [(qek kd c).2])
def qnm (r : K × List N) : K × List N := ((qi r.1 [125]).1, r.2)
def qjn (kd : Int) (c : K) : K × List N := if (decide (c.err = 0) && !isK c [125]) = true then qgc kd (em c + 2) c [] else (c, [])
def qe3 (kd : Int) (c : K) : K × List N := qnm (qjn kd (qi (qi c [119, 104, 101, 114, 101]).1 [123]).1)
def qeu (k : Int) (c : K) : K × N := if k = 35 then ((qn c 1).1, .mk 1 (qev c 1).pos 0 (qev c 1).text []) else qb7 c
def qv4 (k p : Int) (t : T) (v : List N) (n : N) (b : K × List N) : K × N := (b.1, qk8 k p t v (v ++ [n] ++ b.2))
def qwv (k p : Int) (t : T) (v : List N) (a : K × N) : K × N := qv4 k p t v a.2 (qe3 (if k = 35 then 32 else 31) a.1)
def qir (k p : Int) (c : K) : K × N := qwv k p (qev (qfc c).1 2) (qfc c).2 (qeu k (qn (qfc c).1 2).1)
def qet (c : K) : K × N :=
 if (qf c qpk).2 = true then qjo (qq c).pos (qf c qpk).1
 else if (qf c qkb).2 = true then qir 35 (qq c).pos (qf c qkb).1
 else if (qf c qpi).2 = true then qir 36 (qq c).pos (qf c qpi).1
 else qfl c
def qdk (c : K) : K × Bool := ((qf c [59]).1, (qf c [59]).2 && decide ((qf c [59]).1.err = 0) && decide (0 < rest (qf c [59]).1))
def qfk : Nat → K → List N → K × List N
 | 0, c, acc => (c, acc)
 | f + 1, c, acc => if (qdk (qet c).1).2 = true then qfk f (qdk (qet c).1).1 (acc ++ [(qet c).2]) else ((qdk (qet c).1).1, acc ++ [(qet c).2])
def qmy (c : K) : K × List N := if 0 < rest c then qfk (em c + 2) c [] else (c, [])
def qqi (c : K) : K × N := ((qmy c).1, qpm (qmy c).2)

theorem qea (c : K) : Mon c (qb7 c).1 := qf1 (qcl _) c
theorem qlb (c : K) : Mon c (qfl c).1 := qih (qlp _) c
theorem qjx (c : K) : Mon c (qfc c).1 := qg7 (qcl _) c
theorem qhk {c : K} (h : begT c = true) : em (qb7 c).1 < em c := qhq (qcl _) h
theorem qnr {c : K} (h : qd8 c = true) : begT c = true := by
 simp only [qd8, decide_eq_true_eq] at h
 simp [begT, h]
section
variable {p : K → Bool} (hp : ∀ c, p c = true → begT c = true)
include hp
theorem qmi : ∀ (f : Nat) (c : K) (acc : List N), Mon c (qfb p f c acc).1
 | 0, c, acc => Mon.refl c
 | f + 1, c, acc => by
   rw [qfb]
   split
   ·exact (qea c).trans (qmi f _ _)
   ·exact Mon.refl c
end
theorem qjh (c : K) : Mon c (qf8 c).1 := (qbf c 2).trans (qmi (fun _ h => h) _ _ _)
theorem qsn : ∀ (f : Nat) (c : K) (acc : List N), Mon c (qhg f c acc).1
 | 0, c, acc => Mon.refl c
 | f + 1, c, acc => by
   rw [qhg]
   split
   ·exact ((qjh c).trans (qk _ _)).trans (qsn f _ _)
   ·exact (qjh c).trans (qk _ _)
theorem qyw (p : Int) (c : K) : Mon c (qjo p c).1 := (((qbf c 2).trans (qmi (fun _ h => qnr h) _ _ _)).trans (qd _ _)).trans (qsn _ _ _)
theorem qf9 (kd : Int) (c : K) : Mon c (qek kd c).1 := by
 unfold qek
 simp only
 split
 ·exact (qlb c).trans (qeg _ _)
 ·exact qlb c
theorem qri (kd : Int) : ∀ (f : Nat) (c : K) (acc : List N), Mon c (qgc kd f c acc).1
 | 0, c, acc => Mon.refl c
 | f + 1, c, acc => by
   rw [qgc]
   split
   ·exact ((qf9 kd c).trans (qfo _)).trans (qri kd f _ _)
   ·exact (qf9 kd c).trans (qfo _)
theorem qru (kd : Int) : ∀ (f : Nat) (c : K) (acc : List N), (qgc kd f c acc).2.length ≤ acc.length + em c + 1
 | 0, c, acc => by simp only [qgc]; omega
 | f + 1, c, acc => by
   rw [qgc]
   split
   ·rename_i h
    have h1 := qru kd f (qb1 (qek kd c).1).1 (acc ++ [(qek kd c).2])
    have h2 := qjk h
    have h3 := (qf9 kd c).em
    simp only [List.length_append, List.length_cons, List.length_nil] at h1
    omega
   ·simp only [List.length_append, List.length_cons, List.length_nil]; omega
theorem qxv (kd : Int) (c : K) : Mon c (qjn kd c).1 := by
 unfold qjn
 split
 ·exact qri kd _ _ _
 ·exact Mon.refl c
theorem qx9 (kd : Int) (c : K) : Mon c (qe3 kd c).1 := (((qd c _).trans (qd _ _)).trans (qxv kd _)).trans (qd _ _)
theorem qo8 (kd : Int) (c : K) : (qe3 kd c).2.length ≤ em c + 1 := by
 have h := ((qd c [119, 104, 101, 114, 101]).trans (qd _ [123])).em
 unfold qe3 qnm qjn
 split
 ·have := qru kd (em (qi (qi c [119, 104, 101, 114, 101]).1 [123]).1 + 2) (qi (qi c [119, 104, 101, 114, 101]).1 [123]).1 []
  simp only [List.length_nil] at this
  simp only; omega
 ·simp
theorem qy8 (k : Int) (c : K) : Mon c (qeu k c).1 := by
 unfold qeu
 split
 ·exact qbf c 1
 ·exact qea c
theorem qo5 (k p : Int) (c : K) : Mon c (qir k p c).1 := (((qjx c).trans (qbf _ 2)).trans (qy8 k _)).trans (qx9 _ _)
theorem qis (c : K) : Mon c (qet c).1 := by
 unfold qet
 split
 ·exact (qk c _).trans (qyw _ _)
 ·split
  ·exact (qk c _).trans (qo5 _ _ _)
  ·split
   ·exact (qk c _).trans (qo5 _ _ _)
   ·exact qlb c
theorem qja (c : K) : Mon c (qdk c).1 := qk c _
theorem qnt {c : K} (h : (qdk c).2 = true) : em (qdk c).1 < em c := by
 unfold qdk at h ⊢
 simp only [Bool.and_eq_true] at h
 exact qdx h.1.1
theorem qu8 (c : K) : (qfc c).2.length ≤ em c + 1 := qpd (qcl _) c
end Go.Proofs.YtfjbmjplnmaclaaGreat
