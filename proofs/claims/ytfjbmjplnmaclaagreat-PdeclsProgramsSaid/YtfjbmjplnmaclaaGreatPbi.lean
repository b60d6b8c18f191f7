/- Texts of this proof, joined. -/
import Derived.Test.YtfjbmjplnmaclaaGreatPaz
import Derived.Test.YtfjbmjplnmaclaaGreatPap
import Derived.Test.YtfjbmjplnmaclaaGreatPat
import Derived.Test.YtfjbmjplnmaclaaGreatPan
import Derived.Test.YtfjbmjplnmaclaaGreatPbf
import Derived.Test.YtfjbmjplnmaclaaGreatPbh
import Derived.Test.YtfjbmjplnmaclaaGreatPbe

/- rows of texts -/
namespace Go.Proofs.YtfjbmjplnmaclaaGreat
open Go Go.RowKit Go.V
set_option linter.unusedVariables false
set_option linter.unusedSimpArgs false
theorem bifT {α : Type} (a b : α) : (bif true then a else b) = a := Eq.trans rfl rfl
theorem bifF {α : Type} (a b : α) : (bif false then a else b) = b := Eq.trans rfl rfl
attribute [go_sem] bifT bifF
set_option maxRecDepth 4000

theorem qq5 (c : K) (n : N) : qz Tryz.prog 24 [refC c, enc n] (resV (qko c n)) := by
 refine qj c0ge (by simp) (by simp only [go_sem]) (by simp only [go_sem]) fun hw => ?_
 repeat' (first | refine vs_ ?_ | ((first | refine vr_ ?_ | refine qa (qtp c) fun _ => ?_ | refine qa (q95 n) fun _ => ?_ | refine qb (qtp c) ?_ | refine qb (q95 n) ?_ | (refine cs_ ?_ ?_ <;> intro hc) | refine cj_ ?_ | fail) <;> (try refine ev_ ?_)) | with_reducible exact ti_)
 all_goals (try rw [qds])
 all_goals unfold qko
 all_goals (repeat' split)
 all_goals first | omega | rfl | simp_all [go_sem]
theorem qbal : ∀ n, qyw n n = true := N.ind fun n ih => by
 rw [qj4]
 have key : ∀ l : List N, (∀ x ∈ l, qyw x x = true) → qfy l l = true := by
  intro l
  induction l with
  | nil => intro _; rw [qfy]
  | cons x r ihr => intro h; rw [qfy, h x (by simp), ihr fun y hy => h y (by simp [hy])]; rfl
 simp [key n.kids ih]


end Go.Proofs.YtfjbmjplnmaclaaGreat

/- declarations: the reference: what is read (plain) -/
namespace Go.Proofs.YtfjbmjplnmaclaaGreat
open Go Go.RowKit Go.V
set_option linter.unusedVariables false
set_option linter.unusedSimpArgs false
set_option linter.unusedSectionVars false

theorem capB {n : Nat} (h : n ≤ 100000000) : qdp n 64 := by unfold qdp; omega
def qb7 (c : K) : K × N := qcq (qcg (rest c + 2)) c
def qfk (c : K) : K × N := qdz (qg9 (rest c + 2)) c
def qfd (c : K) : K × List N := qdy (qcg (rest c + 2)) c
def qfb (p : K → Bool) : Nat → K → List N → K × List N
 | 0, c, acc => (c, acc)
 | f + 1, c, acc => if p c = true then qfb p f (qb7 c).1 (acc ++ [(qb7 c).2]) else (c, acc)
def qvz (t : T) (r : K × List N) : K × N := (r.1, conN t r.2)
def qf6 (c : K) : K × N := qvz (qev c 2) (qfb begT (em (qn c 2).1 + 1) (qn c 2).1 [])
def qhc : Nat → K → List N → K × List N
 | 0, c, acc => (c, acc)
 | f + 1, c, acc => if (qf (qf6 c).1 [124]).2 = true then qhc f (qf (qf6 c).1 [124]).1 (acc ++ [(qf6 c).2]) else ((qf (qf6 c).1 [124]).1, acc ++ [(qf6 c).2])
def qvy (p : Int) (t : T) (v : List N) (r : K × List N) : K × N := (r.1, qrn p t v r.2)
def qwp (p : Int) (t : T) (v : K × List N) : K × N := qvy p t v.2 (qhc (em (qi v.1 [61]).1 + 2) (qi v.1 [61]).1 v.2)
def qj6 (p : Int) (c : K) : K × N := qwp p (qev c 2) (qfb qd7 (em (qn c 2).1 + 1) (qn c 2).1 [])
def qek (kd : Int) (c : K) : K × N := (if (qfk c).1.err = 0 ∧ (qfk c).2.kind ≠ kd then qdg (qfk c).1 5 else (qfk c).1, (qfk c).2)
def qge (kd : Int) : Nat → K → List N → K × List N
 | 0, c, acc => (c, acc)
 | f + 1, c, acc => if (qb1 (qek kd c).1).2 = true then qge kd f (qb1 (qek kd c).1).1 (acc ++ [(qek kd c).2]) else ((qb1 (qek kd c).1).1, acc ++ [(qek kd c).2])
def qnf (r : K × List N) : K × List N := ((qi r.1 [125]).1, r.2)
def qjg (kd : Int) (c : K) : K × List N := if (decide (c.err = 0) && !isK c [125]) = true then qge kd (em c + 2) c [] else (c, [])
def qe6 (kd : Int) (c : K) : K × List N := qnf (qjg kd (qi (qi c [119, 104, 101, 114, 101]).1 [123]).1)
def qeu (k : Int) (c : K) : K × N := if k = 35 then ((qn c 1).1, .mk 1 (qev c 1).pos 0 (qev c 1).text []) else qb7 c
def qve (k p : Int) (t : T) (v : List N) (n : N) (b : K × List N) : K × N := (b.1, qkn k p t v (v ++ [n] ++ b.2))
def quz (k p : Int) (t : T) (v : List N) (a : K × N) : K × N := qve k p t v a.2 (qe6 (if k = 35 then 32 else 31) a.1)
def qig (k p : Int) (c : K) : K × N := quz k p (qev (qfd c).1 2) (qfd c).2 (qeu k (qn (qfd c).1 2).1)
def qes (c : K) : K × N :=
 if (qf c qpi).2 = true then qj6 (qq c).pos (qf c qpi).1
 else if (qf c qkc).2 = true then qig 35 (qq c).pos (qf c qkc).1
 else if (qf c qpn).2 = true then qig 36 (qq c).pos (qf c qpn).1
 else qfk c
def qdj (c : K) : K × Bool := ((qf c [59]).1, (qf c [59]).2 && decide ((qf c [59]).1.err = 0) && decide (0 < rest (qf c [59]).1))
def qfo : Nat → K → List N → K × List N
 | 0, c, acc => (c, acc)
 | f + 1, c, acc => if (qdj (qes c).1).2 = true then qfo f (qdj (qes c).1).1 (acc ++ [(qes c).2]) else ((qdj (qes c).1).1, acc ++ [(qes c).2])
def qm1 (c : K) : K × List N := if 0 < rest c then qfo (em c + 2) c [] else (c, [])
def qqc (c : K) : K × N := ((qm1 c).1, qpg (qm1 c).2)

theorem qd9 (c : K) : Mon c (qb7 c).1 := qf3 (qcm _) c
theorem qks (c : K) : Mon c (qfk c).1 := qip (qlr _) c
theorem qjy (c : K) : Mon c (qfd c).1 := qhb (qcm _) c
theorem qhj {c : K} (h : begT c = true) : em (qb7 c).1 < em c := qhh (qcm _) h
theorem qm9 {c : K} (h : qd7 c = true) : begT c = true := by
 simp only [qd7, decide_eq_true_eq] at h
 simp [begT, h]
section
variable {p : K → Bool} (hp : ∀ c, p c = true → begT c = true)
include hp
theorem qmf : ∀ (f : Nat) (c : K) (acc : List N), Mon c (qfb p f c acc).1
 | 0, c, acc => Mon.refl c
 | f + 1, c, acc => by
   rw [qfb]
   split
   ·exact (qd9 c).trans (qmf f _ _)
   ·exact Mon.refl c
end
theorem qjz (c : K) : Mon c (qf6 c).1 := (qbf c 2).trans (qmf (fun _ h => h) _ _ _)
theorem qsc : ∀ (f : Nat) (c : K) (acc : List N), Mon c (qhc f c acc).1
 | 0, c, acc => Mon.refl c
 | f + 1, c, acc => by
   rw [qhc]
   split
   ·exact ((qjz c).trans (qk _ _)).trans (qsc f _ _)
   ·exact (qjz c).trans (qk _ _)
theorem qx6 (p : Int) (c : K) : Mon c (qj6 p c).1 := (((qbf c 2).trans (qmf (fun _ h => qm9 h) _ _ _)).trans (qd _ _)).trans (qsc _ _ _)
theorem qgf (kd : Int) (c : K) : Mon c (qek kd c).1 := by
 unfold qek
 simp only
 split
 ·exact (qks c).trans (qef _ _)
 ·exact qks c
theorem qrg (kd : Int) : ∀ (f : Nat) (c : K) (acc : List N), Mon c (qge kd f c acc).1
 | 0, c, acc => Mon.refl c
 | f + 1, c, acc => by
   rw [qge]
   split
   ·exact ((qgf kd c).trans (qfn _)).trans (qrg kd f _ _)
   ·exact (qgf kd c).trans (qfn _)
theorem qrk (kd : Int) : ∀ (f : Nat) (c : K) (acc : List N), (qge kd f c acc).2.length ≤ acc.length + em c + 1
 | 0, c, acc => by simp only [qge]; omega
 | f + 1, c, acc => by
   rw [qge]
   split
   ·rename_i h
    have h1 := qrk kd f (qb1 (qek kd c).1).1 (acc ++ [(qek kd c).2])
    have h2 := qjw h
    have h3 := (qgf kd c).em
    simp only [List.length_append, List.length_cons, List.length_nil] at h1
    omega
   ·simp only [List.length_append, List.length_cons, List.length_nil]; omega
theorem qys (kd : Int) (c : K) : Mon c (qjg kd c).1 := by
 unfold qjg
 split
 ·exact qrg kd _ _ _
 ·exact Mon.refl c
theorem qzh (kd : Int) (c : K) : Mon c (qe6 kd c).1 := (((qd c _).trans (qd _ _)).trans (qys kd _)).trans (qd _ _)
theorem qot (kd : Int) (c : K) : (qe6 kd c).2.length ≤ em c + 1 := by
 have h := ((qd c [119, 104, 101, 114, 101]).trans (qd _ [123])).em
 unfold qe6 qnf qjg
 split
 ·have := qrk kd (em (qi (qi c [119, 104, 101, 114, 101]).1 [123]).1 + 2) (qi (qi c [119, 104, 101, 114, 101]).1 [123]).1 []
  simp only [List.length_nil] at this
  simp only; omega
 ·simp
theorem qx9 (k : Int) (c : K) : Mon c (qeu k c).1 := by
 unfold qeu
 split
 ·exact qbf c 1
 ·exact qd9 c
theorem qpc (k p : Int) (c : K) : Mon c (qig k p c).1 := (((qjy c).trans (qbf _ 2)).trans (qx9 k _)).trans (qzh _ _)
theorem qim (c : K) : Mon c (qes c).1 := by
 unfold qes
 split
 ·exact (qk c _).trans (qx6 _ _)
 ·split
  ·exact (qk c _).trans (qpc _ _ _)
  ·split
   ·exact (qk c _).trans (qpc _ _ _)
   ·exact qks c
theorem qjc (c : K) : Mon c (qdj c).1 := qk c _
theorem qnh {c : K} (h : (qdj c).2 = true) : em (qdj c).1 < em c := by
 unfold qdj at h ⊢
 simp only [Bool.and_eq_true] at h
 exact qdw h.1.1
theorem qu3 (c : K) : (qfd c).2.length ≤ em c + 1 := qo7 (qcm _) c
end Go.Proofs.YtfjbmjplnmaclaaGreat
