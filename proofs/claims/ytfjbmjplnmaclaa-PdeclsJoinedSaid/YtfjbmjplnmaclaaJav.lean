/- Texts of this proof, joined. -/
import Derived.Test.YtfjbmjplnmaclaaJat
import Derived.Test.YtfjbmjplnmaclaaJau
set_option linter.unusedVariables false
set_option linter.unusedSimpArgs false

/- types: contexts: the program -/
set_option maxRecDepth 4000
namespace Go.Proofs.Ytfjbmjplnmaclaa
open Go Go.RowKit Go.V

theorem qbw (c:K) (k:Int):Mon c (kindK c k).1:=by
 unfold kindK
 split
 ·exact qbd c
 ·exact qdx c 5
theorem qj2 {c:K} {k:Int} (h:(kindK c k).2 = true):c.err = 0∧(qi c).kind = k:=by
 unfold kindK at h
 split at h
 ·rename_i h1
  simp only [Bool.and_eq_true,decide_eq_true_eq] at h1
  exact h1
 ·cases h
theorem qy7 {c:K} {k:Int} (h:(kindK c k).2 = true):kindK c k = (qg c,true)∧qex c k = qi c:=by
 obtain ⟨h1,h2⟩:=qj2 h
 exact ⟨qkj h1 h2,qob h1 h2⟩
theorem qlc {c:K} {k:Int} (h:(kindK c k).2 = false):(kindK c k).1.err≠0:=by
 unfold kindK at h ⊢
 split at h
 ·cases h
 ·rename_i h1;rw [if_neg h1];exact qfa c
def failT (c:K):Bool:=!decide ((qhg c).2 = 0) && (!decide ((qhg c).2 = 5) || decide ((qi c).kind = 0))
theorem q3m (c:K) (hk:c.ok):qb2 Try.prog 61 (curE c) (curE c) [.ptr 0 0] (.bool (failT c)):=by
 refine ql c0u 1 (by simp) (by simp) ?_
 repeat' (first | refine vs_ ?_ | ((first | refine vr_ ?_ | refine qbxb hk ?_ | refine qbv ?_ | (refine cs_ ?_ ?_<;>intro hc) | refine cj_ ?_ | fail)<;>(try refine ev_ ?_)) | with_reducible exact ti_)
 all_goals (unfold failT;simp_all)
theorem qblk {c:K} {L:List Ent} {Q:List Ent->VO->Prop} (hk:c.ok) (hq:Q (curE c :: L) (.val (.bool (failT c)))):VApp Try.prog (curE c :: L) (.fn 61 [] []) [.ptr 0 0] Q:=qby (q3m c hk) (qu _ _) (qu _ _) rfl rfl fun _=>hq
def qtr (t:T) (n:N):N:=.mk 3 t.pos 0 t.text [n]
def qw (rec:K->K×Option N) (c:K):K×Option N :=
 if (kindK c 2).2 = true then ((qbc rec (kindK c 2).1).1,(qbc rec (kindK c 2).1).2.map (qtr (qex c 2)))
 else ((kindK c 2).1,none)
theorem q38 {c:K} {L:List Ent} {t:T} {n:N} {b:Bool} {Q:List Ent->VO->Prop} (hq:Q (curE c :: L) (.val (resP (ql9 (qtr t n) b)))) :
 VApp Try.prog (curE c :: L) (.fn 56 [] []) [.ptr 0 0,.agg [.int .i64 3,.int .i64 t.pos,.int .i64 0,.str t.text,.sl 5 [enc n]],.bool b] Q:=by
 have h:=qv2 (n:=qtr t n) hq
 simpa only [qtr,enc,encs] using h
theorem q49 {r:Option N} {t:T}:ql9 (qtr t (r.getD N0)) r.isSome = r.map (qtr t):=qs2
section
variable {rec:K->K×Option N} {b:Nat} (hm:∀ c,Mon c (rec c).1) (ih:∀ c,c.good->rest c < b->qb2 Try.prog 54 (curE c) (curE (rec c).1) [.ptr 0 0] (resP (rec c).2))
include hm ih
theorem qn1 (c:K) (hg:c.good) (hr:rest c≤b):qb2 Try.prog 62 (curE c) (curE (qw rec c).1) [.ptr 0 0] (resP (qw rec c).2):=by
 have g1:(kindK c 2).1.good:=(qbw c 2).1 hg
 have hr1:rest (kindK c 2).1≤b:=by have:=(qbw c 2).2.1;omega
 refine ql c0v 1 (by simp) (by simp) ?_
 repeat' (first | refine vs_ ?_ | ((first | refine vr_ ?_ | refine qcw hg.ok ?_ | refine qce (qhl hm ih _ g1 hr1) rfl ?_ | refine q38 ?_ | (refine cs_ ?_ ?_<;>intro hc) | refine cj_ ?_ | fail)<;>(try refine ev_ ?_)) | with_reducible exact ti_)
 all_goals (try simp only [q49])
 all_goals (unfold qw;simp only [*,qds,Int.reduceEq,if_true,if_false,reduceIte,Bool.false_eq_true,Option.getD_none,Option.getD_some,Option.isSome_none,Option.isSome_some,and_self,true_and,and_true];try rfl)
end
set_option maxRecDepth 4000

def qdn (rec:K->K×Option N) (many:Bool):Nat->K->List N->K×Option (List N)
 | 0,c,_=>(c,none)
 | f + 1, c, acc =>
   if (qw rec c).2.isSome = true then
    if (many && (qd (qw rec c).1 [44]).2) = true then qdn rec many f (qd (qw rec c).1 [44]).1 (acc ++ [(qw rec c).2.getD N0])
    else ((qw rec c).1,some (acc ++ [(qw rec c).2.getD N0]))
   else ((qw rec c).1,none)
def qd6 (many:Bool) (r:K×Option (List N)):K×Option (List N) :=
 if r.2.isSome = true then
  if many = true then
   if (qc r.1 [41]).2 = true then ((qc (qc r.1 [41]).1 [61,62]).1,if (qc (qc r.1 [41]).1 [61,62]).2 = true then r.2 else none)
   else ((qc r.1 [41]).1,none)
  else ((qc r.1 [61,62]).1,if (qc r.1 [61,62]).2 = true then r.2 else none)
 else (r.1,none)
def qcn (rec:K->K×Option N) (c:K):K×Option (List N) :=
 if ((qd c [40]).2 && isK (qd c [40]).1 [41]) = true then ((qd c [40]).1,some []) else qdn rec (qd c [40]).2 (rest (qd c [40]).1 + 1) (qd c [40]).1 []
def qq (rec:K->K×Option N) (c:K):K×Option (List N) :=
 if qgv c [61,62] = true then qd6 (qd c [40]).2 (qcn rec c)
 else (c,if failT c = true then none else some [])
section
variable {rec:K->K×Option N} (hm:∀ c,Mon c (rec c).1)
include hm
theorem qgl (c:K):Mon c (qw rec c).1:=by
 unfold qw
 split
 ·exact (qbw c 2).trans (qd0 hm _)
 ·exact qbw c 2
theorem qji {c:K} (h:(qw rec c).2.isSome = true):rest (qw rec c).1 < rest c:=by
 unfold qw at h ⊢
 split at h
 ·rename_i h1
  rw [if_pos h1]
  have h2:=(qbw c 2).2.1
  have h3:=qdk hm (c:=(kindK c 2).1) (by simpa using h)
  simp only;omega
 ·cases h
theorem qqz (many:Bool):∀ (f:Nat) (c:K) (acc:List N),Mon c (qdn rec many f c acc).1
 | 0,c,acc=>Mon.refl c
 | f + 1, c, acc => by
   rw [qdn]
   split
   ·split
    ·exact ((qgl hm c).trans (qn _ _)).trans (qqz many f _ _)
    ·exact qgl hm c
   ·exact qgl hm c
theorem q2w (c:K):Mon c (qcn rec c).1:=by
 unfold qcn
 split
 ·exact qn c _
 ·exact (qn c _).trans (qqz hm _ _ _ _)
theorem qfe (c:K):Mon c (qq rec c).1:=by
 unfold qq qd6
 have h:=q2w hm c
 split
 ·split
  ·split
   ·split
    ·exact (h.trans (qe _ _)).trans (qe _ _)
    ·exact h.trans (qe _ _)
   ·exact h.trans (qe _ _)
  ·exact h
 ·exact Mon.refl c
end
def qs9 (p:Nat) (r:Option (List N)):AV:=.tup [accV p (encs (r.getD [])),.bool r.isSome]
def qhs (rec:K->K×Option N) (c:K):Prop:=VCalls Try.prog 42 [curE c] [.ptr 0 0] fun H' o=>H' = curE (qq rec c).1 :: accE 5 (encs ((qq rec c).2.getD []))∧o = .val (qs9 1 (qq rec c).2)
def q6k (many:Bool) (x:Bool×Nat×K×List N):AF×List Ent :=
 (⟨[(0,.ptr 0 0),(4,accV 1 (encs x.2.2.2)),(5,.bool many),(6,.bool x.1)],[]⟩,curE x.2.2.1 :: accE 5 (encs x.2.2.2))
section
variable {rec:K->K×Option N} {b:Nat} (hm:∀ c,Mon c (rec c).1) (ih:∀ c,c.good->rest c < b->qb2 Try.prog 54 (curE c) (curE (rec c).1) [.ptr 0 0] (resP (rec c).2))
include hm ih
theorem qpg (c:K) (hg:c.good) (hr:rest c≤b):qhs rec c:=by
 unfold qhs
 obtain ⟨kk,hk1,hk2,hk0⟩:∃ k:Nat,((qq rec c).2.getD [] = []->k = 1)∧((qq rec c).2.getD []≠[]->k = 2)∧1≤k:=by
  by_cases h:(qq rec c).2.getD [] = []
  ·exact ⟨1,fun _=>rfl,fun g=>absurd h g,by omega⟩
  ·exact ⟨2,fun g=>absurd g h,fun _=>rfl,by omega⟩
 refine qdh c0t kk (by simpa using hk0) (by simp) ?_
 have g1:(qd c [40]).1.good:=(qn c _).1 hg
 have hr1:rest (qd c [40]).1≤b:=by have:=(qn c [40]).2.1;omega
 by_cases ha:qgv c [61,62] = true
 ·have hpa:qq rec c = qd6 (qd c [40]).2 (qcn rec c):=by rw [qq,if_pos ha]
  rw [hpa] at hk1 hk2 ⊢
  clear hpa
  unfold qcn at hk1 hk2 ⊢
  generalize htg:(if ((qd c [40]).2 && isK (qd c [40]).1 [41]) = true then ((qd c [40]).1,some []) else qdn rec (qd c [40]).2 (rest (qd c [40]).1 + 1) (qd c [40]).1 []) = tg at hk1 hk2 ⊢
  generalize hd0:(qd c [40]).1 = d0 at *
  generalize hmn:(qd c [40]).2 = many at *
  have h0t:(!(many && isK d0 [41])) = true->qdn rec many (rest d0 + 1) d0 [] = tg:=fun h=>by
   rw [Bool.not_eq_true'] at h
   rw [← htg,if_neg (by rw [h];simp)]
  have h0f:(!(many && isK d0 [41])) = false->tg = (d0,some []):=fun h=>by
   rw [Bool.not_eq_false'] at h
   rw [← htg,if_pos h]
  clear htg
  obtain ⟨mm,hmm⟩:∃ mm,mm = many:=⟨_,rfl⟩
  cases many<;>(
   repeat' (first | refine vs_ ?_ | ((first | refine vr_ ?_ | fail)<;>(try simp only [ha,hd0,hmn,go_sem,↓reduceIte])) | ((first | (refine cs_ ?_ ?_<;>intro hc) | refine cj_ ?_ | fail | refine q54 hg.ok hg.2.1 ?_ | refine qdt hg.ok ?_ | refine a_Is ?_)<;>(try refine ev_ ?_)) | with_reducible exact ti_)
   refine qct (S:=Bool×Nat×K×List N) (fun x=>x.2.2.1.good∧rest x.2.2.1≤b∧(x.1 = true->qdn rec mm x.2.1 x.2.2.1 x.2.2.2 = tg∧rest x.2.2.1 < x.2.1)∧(x.1 = false->tg = (x.2.2.1,some x.2.2.2))∧x.2.2.2.length + rest x.2.2.1≤1048577)
    (q6k mm) (fun x=>if x.1 = true then rest x.2.2.1 + 1 else 0) ?_ ?_
   ·refine qb1 (!(mm && isK d0 [41]),rest d0 + 1,d0,[]) [0] ⟨g1,hr1,fun h=>⟨by rw [hmm];exact h0t (by simp only [hmm] at h;exact h),Nat.lt_succ_self _⟩,fun h=>h0f (by simp only [hmm] at h;exact h),?_⟩ rfl (by simp) ?_ ?_ ?_
    ·have h9:=g1.rest
     unfold rest
     simp only [List.length_nil]
     omega
    all_goals simp only [q6k,encs,qbf,qbi,hmm,Bool.false_and,Bool.true_and,Bool.not_false]
    all_goals (refine ev_ ?_;(try with_reducible exact ti_))
   ·rintro ⟨more,fu,d,acc⟩ ⟨i1,i2,i3,i4,i5⟩
    simp only at i1 i2 i3 i4 i5
    unfold q6k
    have hcap:qeb (acc.length + 1) 64:=capN (by omega)
    cases more with
    | false =>
      have i4:=i4 rfl
      subst i4
      clear i3
      by_cases hE:(qd6 mm (d,some acc)).2.getD [] = []
      ·simp only [hmm] at hE
       obtain rfl:=hk1 hE
       by_cases h0:acc = []
       ·subst h0
        simp only [encs,qbf,qbi,hmm]
        repeat' (first | refine vs_ ?_ | ((first | refine vr_ ?_ | fail)<;>(try simp only [hmm,go_sem,↓reduceIte])) | ((first | (refine cs_ ?_ ?_<;>intro hc) | refine cj_ ?_ | fail | refine qb5 i1.ok ?_ | refine qb5 ((qe d _).1 i1).ok ?_)<;>(try refine ev_ ?_)) | with_reducible exact ti_)
        all_goals (unfold qd6;simp only [*,qs9,encs,qbf,qbi,if_true,if_false,reduceIte,Bool.false_eq_true,Option.isSome_some,Option.isSome_none,Option.getD_some,Option.getD_none,and_self,true_and,and_true,Bool.true_and,Bool.false_and,not_true_eq_false])
       ·have hne:=q8 h0
        simp only [qbk hne,qbl hne,q9,hmm]
        repeat' (first | refine vs_ ?_ | ((first | refine vr_ ?_ | fail)<;>(try simp only [hmm,go_sem,↓reduceIte])) | ((first | (refine cs_ ?_ ?_<;>intro hc) | refine cj_ ?_ | fail | refine qb5 i1.ok ?_ | refine qb5 ((qe d _).1 i1).ok ?_)<;>(try refine ev_ ?_)) | with_reducible exact ti_)
        all_goals first | (exfalso;unfold qd6 at hE;simp only [*,qs9,encs,qbf,qbi,if_true,if_false,reduceIte,Bool.false_eq_true,Option.isSome_some,Option.isSome_none,Option.getD_some,Option.getD_none,and_self,true_and,and_true,Bool.true_and,Bool.false_and,not_true_eq_false] at hE;done) | (unfold qd6;simp only [*,qs9,encs,qbf,qbi,if_true,if_false,reduceIte,Bool.false_eq_true,Option.isSome_some,Option.isSome_none,Option.getD_some,Option.getD_none,and_self,true_and,and_true,Bool.true_and,Bool.false_and,not_true_eq_false])
      ·simp only [hmm] at hE
       obtain rfl:=hk2 hE
       have h0:¬ acc = []:=by
        intro h
        subst h
        apply hE
        unfold qd6
        repeat' split
        all_goals rfl
       have hne:=q8 h0
       simp only [qbk hne,qbl hne,q9,hmm]
       repeat' (first | refine vs_ ?_ | ((first | refine vr_ ?_ | fail)<;>(try simp only [hmm,go_sem,↓reduceIte])) | ((first | (refine cs_ ?_ ?_<;>intro hc) | refine cj_ ?_ | fail | refine qb5 i1.ok ?_ | refine qb5 ((qe d _).1 i1).ok ?_)<;>(try refine ev_ ?_)) | with_reducible exact ti_)
       all_goals first | (exfalso;unfold qd6 at hE;simp only [*,qs9,encs,qbf,qbi,if_true,if_false,reduceIte,Bool.false_eq_true,Option.isSome_some,Option.isSome_none,Option.getD_some,Option.getD_none,and_self,true_and,and_true,Bool.true_and,Bool.false_and,not_true_eq_false] at hE;done) | (unfold qd6;simp only [*,qs9,encs,qbf,qbi,if_true,if_false,reduceIte,Bool.false_eq_true,Option.isSome_some,Option.isSome_none,Option.getD_some,Option.getD_none,and_self,true_and,and_true,Bool.true_and,Bool.false_and,not_true_eq_false];rw [qbl hne,qbk hne,q9];exact ⟨rfl,rfl⟩)
    | true =>
      have i6:=(i3 rfl).2
      replace i3:=(i3 rfl).1
      clear i4
      obtain ⟨fu,rfl⟩:∃ k,fu = k + 1:=⟨fu - 1,by omega⟩
      rw [qdn] at i3
      have j1:(qw rec d).1.good:=(qgl hm d).1 i1
      have j2:rest (qw rec d).1≤rest d:=(qgl hm d).2.1
      have j3:(qd (qw rec d).1 [44]).1.good:=(qn _ _).1 j1
      have j4:=(qn (qw rec d).1 [44]).2.1
      by_cases hs:(qw rec d).2.isSome = true
      ·rw [if_pos hs] at i3
       have hlt:=qji hm hs
       obtain ⟨d',hd',k1,k2,k3,k4⟩:∃ d',d' = (if mm = true then (qd (qw rec d).1 [44]).1 else (qw rec d).1)∧d'.good∧rest d'≤rest (qw rec d).1∧((mm && (qd (qw rec d).1 [44]).2) = true->qdn rec mm fu d' (acc ++ [(qw rec d).2.getD N0]) = tg)∧((mm && (qd (qw rec d).1 [44]).2) = false->tg = (d',some (acc ++ [(qw rec d).2.getD N0]))):=by
        refine ⟨_,rfl,?_,?_,fun h=>?_,fun h=>?_⟩
        ·cases mm
         ·exact j1
         ·exact j3
        ·cases mm
         ·exact Nat.le_refl _
         ·exact j4
        ·rw [if_pos h] at i3
         rw [if_pos (by simp only [Bool.and_eq_true] at h;exact h.1)]
         exact i3
        ·rw [if_neg (by rw [h];simp)] at i3
         rw [← i3]
         clear hmm
         cases mm
         ·rfl
         ·rw [Bool.true_and] at h
          rw [if_pos rfl,qc2 h]
       by_cases h0:acc = []
       ·subst h0
        simp only [encs,qbf,qbi,hmm]
        repeat' (first | refine vs_ ?_ | ((first | refine vr_ ?_ | fail)<;>(try simp only [hmm,hs,go_sem,↓reduceIte])) | ((first | (refine cs_ ?_ ?_<;>intro hc) | refine cj_ ?_ | fail | refine qce (qn1 hm ih d i1 i2) rfl ?_ | refine qdt j1.ok ?_)<;>(try refine ev_ ?_)) | with_reducible exact ti_)
        ·refine qb1 (mm && (qd (qw rec d).1 [44]).2,fu,d',[] ++ [(qw rec d).2.getD N0]) [0,2] ⟨⟨k1,by simp only;omega,fun h=>⟨by first | exact k3 h | (have:=k3 h;simpa only [hmm] using this),by simp only;omega⟩,fun h=>k4 h,?_⟩,?_⟩ rfl (by simp) ?_ ?_ ?_
         ·simp only [List.length_append,List.length_cons,List.length_nil];omega
         ·simp only;split<;>omega
         all_goals simp only [hd',hmm,if_true,if_false,reduceIte,Bool.false_eq_true,Bool.true_and,Bool.false_and,q6k,← qh,qfj,qfn,List.nil_append,encs,qgx,qgu]
         all_goals (refine ev_ ?_;(try with_reducible exact ti_))
       ·have hne:=q8 h0
        simp only [qbk hne,qbl hne,q9,hmm]
        repeat' (first | refine vs_ ?_ | ((first | refine vr_ ?_ | fail)<;>(try simp only [hmm,hs,go_sem,↓reduceIte])) | ((first | (refine cs_ ?_ ?_<;>intro hc) | refine cj_ ?_ | fail | refine qce (qn1 hm ih d i1 i2) rfl ?_ | refine qdt j1.ok ?_)<;>(try refine ev_ ?_)) | with_reducible exact ti_)
        ·refine qb1 (mm && (qd (qw rec d).1 [44]).2,fu,d',acc ++ [(qw rec d).2.getD N0]) [0,3] ⟨⟨k1,by simp only;omega,fun h=>⟨by first | exact k3 h | (have:=k3 h;simpa only [hmm] using this),by simp only;omega⟩,fun h=>k4 h,?_⟩,?_⟩ rfl (by simp) ?_ ?_ ?_
         ·simp only [List.length_append,List.length_cons,List.length_nil];omega
         ·simp only;split<;>omega
         all_goals simp only [hd',hmm,if_true,if_false,reduceIte,Bool.false_eq_true,Bool.true_and,Bool.false_and,q6k,← qh,qfj,qfn,List.nil_append,encs,qgx,qgu]
         all_goals (refine ev_ ?_;(try with_reducible exact ti_))
         all_goals (try (rw [qh,qr,q6];exact ⟨rfl,rfl⟩))
      ·have hs:(qw rec d).2.isSome = false:=by simpa using hs
       rw [if_neg (by rw [hs];simp)] at i3
       subst i3
       obtain rfl:=hk1 rfl
       by_cases h0:acc = []
       ·subst h0
        simp only [encs,qbf,qbi,hmm]
        repeat' (first | refine vs_ ?_ | ((first | refine vr_ ?_ | fail)<;>(try simp only [hmm,hs,go_sem,↓reduceIte])) | ((first | (refine cs_ ?_ ?_<;>intro hc) | refine cj_ ?_ | fail | refine qce (qn1 hm ih d i1 i2) rfl ?_ | refine qdt j1.ok ?_)<;>(try refine ev_ ?_)) | with_reducible exact ti_)
        exact ⟨rfl,rfl⟩
       ·have hne:=q8 h0
        simp only [qbk hne,qbl hne,q9,hmm]
        repeat' (first | refine vs_ ?_ | ((first | refine vr_ ?_ | fail)<;>(try simp only [hmm,hs,go_sem,↓reduceIte])) | ((first | (refine cs_ ?_ ?_<;>intro hc) | refine cj_ ?_ | fail | refine qce (qn1 hm ih d i1 i2) rfl ?_ | refine qdt j1.ok ?_)<;>(try refine ev_ ?_)) | with_reducible exact ti_)
        exact ⟨rfl,rfl⟩
   )
 ·have hpa:qq rec c = (c,if failT c = true then none else some []):=by rw [qq,if_neg ha]
  rw [hpa] at hk1 hk2 ⊢
  obtain rfl:=hk1 (by simp only;split<;>rfl)
  repeat' (first | refine vs_ ?_ | ((first | refine vr_ ?_ | fail)<;>(try simp only [ha,go_sem,↓reduceIte])) | ((first | (refine cs_ ?_ ?_<;>intro hc) | refine cj_ ?_ | fail | refine q54 hg.ok hg.2.1 ?_ | refine qblk hg.ok ?_)<;>(try refine ev_ ?_)) | with_reducible exact ti_)
  cases failT c<;>exact ⟨rfl,rfl⟩
end
set_option maxRecDepth 4000

theorem ql3 {rec:K->K×Option N} {c:K} (h:qhs rec c) (h0:(qq rec c).2.getD [] = []) {L:List Ent} {Q:List Ent->VO->Prop} (hq:Q (curE (qq rec c).1 :: L) (.val (.tup [.nils,.bool (qq rec c).2.isSome]))) :
 VApp Try.prog (curE c :: L) (.fn 42 [] []) [.ptr 0 0] Q :=
 qby (r:=.tup [.nils,.bool (qq rec c).2.isSome]) (e':=curE (qq rec c).1) (by
  unfold qhs at h
  rw [h0] at h
  unfold qb2
  have hr:qs9 1 (qq rec c).2 = .tup [.nils,.bool (qq rec c).2.isSome]:=by rw [qs9,h0];rfl
  rw [hr] at h
  exact h) (qu _ _) (qu _ _) rfl rfl fun _=>hq
theorem qqy {rec:K->K×Option N} {c:K} (h:qhs rec c) {l:List N} (hl:(qq rec c).2 = some l) (h0:l≠[]) {L:List Ent} {Q:List Ent->VO->Prop}
 (hq:Q (curE (qq rec c).1 :: (L ++ [.app 5 (encs l)])) (.val (.tup [.row (L.length + 1) l.length,.bool true]))) :
 VApp Try.prog (curE c :: L) (.fn 42 [] []) [.ptr 0 0] Q :=
 qb0 (first:=[]) (caps:=[]) (by
  simp only [List.nil_append,List.append_nil]
  have hne:=q8 h0
  have hs:AV.rens (sg [0]) [.ptr 0 0] = [.ptr 0 0]:=rfl
  rw [← hs]
  have ha:AV.bds 1 [.ptr 0 0] = true:=rfl
  have napp_ren:∀ σ:Nat->Nat,(Ent.app 5 (encs l)).ren σ = .app 5 (encs l):=fun σ=>Ent.ren_same (m:=0) (fun i hi=>by omega) _ (by simp [Ent.bd,qr])
  refine qf7 (H0:=[curE c]) [0] h (by simp) (by simp) rfl ?_ ha ?_
  ·intro j e2 hj
   obtain rfl:j = 0:=by have:=(List.getElem?_eq_some_iff.1 hj).1;simp at this;omega
   simp only [List.getElem?_cons_zero,Option.some.injEq] at hj
   subst hj
   exact .inr ⟨qu _ _,by rw [qcq];rfl⟩
  rintro H1 o ⟨rfl,rfl⟩
  rw [hl]
  simp only [Option.getD_some,qbl hne,qs9,qbk hne,q9,Option.isSome_some,List.length_cons,List.length_nil,List.take_succ_cons,List.take_zero,List.map_nil,qbo,List.drop_zero,List.drop_succ_cons,List.map_cons,qcq,napp_ren,VO.ren,AV.ren,AV.rens,sg',List.set_cons_zero]
  exact hq)
def qqx (p:Int) (l:List N) (t:N):N:=.mk 4 p 0 [] (l ++ [t])
def qdi (f:Nat) (c:K):K×Option N :=
 if (qq (qbg f) c).2.isSome = true then ((qbg f (qq (qbg f) c).1).1,(qbg f (qq (qbg f) c).1).2.map (qqx (qi c).pos ((qq (qbg f) c).2.getD [])))
 else ((qq (qbg f) c).1,none)
theorem qq9 {c:K} {L:List Ent} {p:Int} {l:List N} {t:N} {b:Bool} {Q:List Ent->VO->Prop} (hq:Q (curE c :: L) (.val (resP (ql9 (qqx p l t) b)))) :
 VApp Try.prog (curE c :: L) (.fn 56 [] []) [.ptr 0 0,.agg [.int .i64 4,.int .i64 p,.int .i64 0,.str [],.sl 5 (encs l ++ [enc t])],.bool b] Q:=by
 have h:=qv2 (n:=qqx p l t) hq
 simpa only [qqx,enc,qh] using h
theorem qys {c:K} {L:List Ent} {p:Int} {t:N} {b:Bool} {Q:List Ent->VO->Prop} (hq:Q (curE c :: L) (.val (resP (ql9 (qqx p [] t) b)))) :
 VApp Try.prog (curE c :: L) (.fn 56 [] []) [.ptr 0 0,.agg [.int .i64 4,.int .i64 p,.int .i64 0,.str [],.sl 5 [enc t]],.bool b] Q:=qq9 (l:=[]) hq
theorem qws {r:Option N} {p:Int} {l:List N}:ql9 (qqx p l (r.getD N0)) r.isSome = r.map (qqx p l):=qs2
theorem qwf {rec:K->K×Option N} (hm:∀ c,Mon c (rec c).1) (many:Bool):∀ (f:Nat) (c:K) (acc l:List N),(qdn rec many f c acc).2 = some l->l.length≤acc.length + rest c
 | 0,c,acc,l=>fun h=>by cases h
 | f + 1, c, acc, l => fun h => by
   rw [qdn] at h
   split at h
   ·rename_i hs
    have h1:=qji hm hs
    split at h
    ·have h2:=qwf hm many f _ _ _ h
     have h3:=(qn (qw rec c).1 [44]).2.1
     simp only [List.length_append,List.length_cons,List.length_nil] at h2
     omega
    ·cases h
     simp only [List.length_append,List.length_cons,List.length_nil]
     omega
   ·cases h
theorem qkl {m:Bool} {r:K×Option (List N)} {l:List N} (h:(qd6 m r).2 = some l):r.2 = some l:=by
 unfold qd6 at h
 repeat' split at h
 all_goals first | exact h | cases h
theorem qmy {rec:K->K×Option N} (hm:∀ c,Mon c (rec c).1) {c:K} {l:List N} (h:(qq rec c).2 = some l):l.length≤rest c:=by
 unfold qq at h
 split at h
 ·have h:=qkl h
  unfold qcn at h
  split at h
  ·cases h;exact Nat.zero_le _
  ·have h1:=qwf hm _ _ _ _ _ h
   have h2:=(qn c [40]).2.1
   simp only [List.length_nil] at h1
   omega
 ·simp only at h
  split at h
  ·cases h
  ·cases h;exact Nat.zero_le _
theorem q30 (f:Nat) (c:K) (hg:c.good) (hr:rest c < f):qb2 Try.prog 45 (curE c) (curE (qdi f c).1) [.ptr 0 0] (resP (qdi f c).2):=by
 have hm:=qcg f
 have hP:=qpg hm (qu2 f) c hg (by omega)
 have g1:(qq (qbg f) c).1.good:=(qfe hm c).1 hg
 have hr1:rest (qq (qbg f) c).1 < f:=by have:=(qfe hm c).2.1;omega
 refine ql c0s 1 (by simp) (by simp) ?_
 unfold qdi
 cases ho:(qq (qbg f) c).2 with
 | none =>
   have h0:(qq (qbg f) c).2.getD [] = []:=by rw [ho];rfl
   repeat' (first | refine vs_ ?_ | ((first | refine vr_ ?_ | fail)<;>(try simp only [ho,Option.isSome_none,go_sem,↓reduceIte])) | ((first | (refine cs_ ?_ ?_<;>intro hc) | refine cj_ ?_ | fail | refine qbv ?_ | refine ql3 hP h0 ?_)<;>(try refine ev_ ?_)) | with_reducible exact ti_)
   rw [qds];rfl
 | some l =>
   have hlen:=qmy hm ho
   have hlen2:=hg.rest
   by_cases h0:l = []
   ·subst h0
    have h0:(qq (qbg f) c).2.getD [] = []:=by rw [ho];rfl
    have hcap:qeb 1 64:=capN (by omega)
    repeat' (first | refine vs_ ?_ | ((first | refine vr_ ?_ | fail)<;>(try simp only [ho,Option.isSome_some,go_sem,↓reduceIte])) | ((first | (refine cs_ ?_ ?_<;>intro hc) | refine cj_ ?_ | fail | refine qbv ?_ | refine ql3 hP h0 ?_ | refine qce (qu2 f _ g1 hr1) rfl ?_ | refine qys ?_)<;>(try refine ev_ ?_)) | with_reducible exact ti_)
    rw [qws];rfl
   ·have hcap:qeb (l.length + 1) 64:=capN (by unfold rest at hlen;omega)
    repeat' (first | refine vs_ ?_ | ((first | refine vr_ ?_ | fail)<;>(try simp only [ho,Option.isSome_some,go_sem,↓reduceIte])) | ((first | (refine cs_ ?_ ?_<;>intro hc) | refine cj_ ?_ | fail | refine qbv ?_ | refine qqy hP ho h0 ?_ | refine qce (qu2 f _ g1 hr1) rfl ?_ | refine qq9 ?_)<;>(try refine ev_ ?_)) | with_reducible exact ti_)
    rw [qws];rfl

/-! The size of what is read. -/
theorem qfs:∀ (a b:List N),szs (a ++ b) = szs a + szs b
 | [],b=>by simp [szs]
 | x :: a,b=>by rw [List.cons_append,szs,szs,qfs a b];omega
theorem qy9 (c:K) (k:Int) (ks:List N):sz (qhq c k ks) = szs ks + 1:=by rw [qhv];rfl
section
variable {rec:K->K×Option N} (hm:∀ c,Mon c (rec c).1) (ih:∀ c n,(rec c).2 = some n->sz n + rest (rec c).1≤rest c)
include hm ih
omit hm in
theorem qj5 {c:K} {n:N} (h:(qbc rec c).2 = some n):sz n + rest (qbc rec c).1≤rest c:=by
 unfold qbc at h ⊢
 split at h
 ·rename_i h1
  rw [if_pos h1]
  cases h
  have:=qy (c:=c) (by omega)
  rw [qy9];simp only [szs];omega
 ·rename_i h1
  rw [if_neg h1]
  split at h
  ·rename_i h2
   rw [if_pos h2]
   cases h
   have:=qy (c:=c) (by omega)
   rw [qy9];simp only [szs];omega
  ·rename_i h2
   rw [if_neg h2]
   split at h
   ·rename_i h3
    rw [if_pos h3]
    split at h
    ·rename_i h4
     rw [if_pos h4]
     have hp:=qy (c:=(qa c).1) (by rw [qd5 h4];exact qda h3)
     have h0:=(qo c).2.1
     split at h
     ·rename_i h5
      rw [if_pos h5]
      simp only at h ⊢
      split at h
      ·have h6:=ih _ _ h
       have h7:=(qe (rec (qg (qa c).1)).1 [41]).2.1
       have h8:=(qx (qc (rec (qg (qa c).1)).1 [41]).1).2.1
       omega
      ·cases h
     ·cases h
    ·cases h
   ·cases h
omit hm in
theorem qri:∀ (f:Nat) (c:K) (acc l:List N),(qcu rec f c acc).2 = some l->szs l + rest (qcu rec f c acc).1≤szs acc + rest c
 | 0,c,acc,l=>fun h=>by cases h
 | f + 1, c, acc, l => fun h => by
   rw [qcu] at h ⊢
   split at h
   ·rename_i h1
    rw [if_pos h1]
    split at h
    ·rename_i h2
     rw [if_pos h2]
     obtain ⟨n,hn⟩:=Option.isSome_iff_exists.1 h2
     have h3:=qri f _ _ _ h
     have h4:=qj5 ih hn
     rw [qfs,hn] at h3
     simp only [Option.getD_some,szs] at h3
     rw [hn]
     simp only [Option.getD_some]
     omega
    ·cases h
   ·rename_i h1
    rw [if_neg h1]
    cases h
    exact Nat.le_refl _
omit hm in
theorem qui {c:K} {n:N} (h:(qbt rec c).2 = some n):sz n + rest (qbt rec c).1≤rest c:=by
 unfold qbt at h ⊢
 split at h
 ·rename_i h1
  rw [if_pos h1]
  obtain ⟨l,hl,rfl⟩:=Option.map_eq_some_iff.1 h
  have h2:=qri ih _ _ _ _ hl
  have h3:=qy (c:=c) (by omega)
  rw [qy9]
  simp only [szs] at h2 ⊢
  omega
 ·rename_i h1
  rw [if_neg h1]
  exact qj5 ih h
omit hm in
theorem q11 {c:K} {n:N} (h:(qw rec c).2 = some n):sz n + rest (qw rec c).1≤rest c:=by
 unfold qw at h ⊢
 split at h
 ·rename_i h1
  rw [if_pos h1]
  obtain ⟨m,hk,rfl⟩:=Option.map_eq_some_iff.1 h
  have h2:=qj5 ih hk
  obtain ⟨e1,e2⟩:=qj2 h1
  rw [(qy7 h1).1] at h2 ⊢
  have h3:=qy (c:=c) (by omega)
  have:sz (qtr (qex c 2) m) = sz m + 1:=by rw [qhv];simp [qtr,N.kids,szs]
  simp only at h2 ⊢
  omega
 ·cases h
omit hm in
theorem qp0 (many:Bool):∀ (f:Nat) (c:K) (acc l:List N),(qdn rec many f c acc).2 = some l->szs l + rest (qdn rec many f c acc).1≤szs acc + rest c
 | 0,c,acc,l=>fun h=>by cases h
 | f + 1, c, acc, l => fun h => by
   rw [qdn] at h ⊢
   split at h
   ·rename_i h1
    rw [if_pos h1]
    obtain ⟨n,hn⟩:=Option.isSome_iff_exists.1 h1
    have h4:=q11 ih hn
    split at h
    ·rename_i h2
     rw [if_pos h2]
     have h3:=qp0 many f _ _ _ h
     have h5:=(qn (qw rec c).1 [44]).2.1
     rw [qfs,hn] at h3
     simp only [Option.getD_some,szs] at h3
     rw [hn]
     simp only [Option.getD_some]
     omega
    ·rename_i h2
     rw [if_neg h2]
     cases h
     rw [hn,qfs]
     simp only [Option.getD_some,szs]
     omega
   ·cases h
end
theorem qlu:∀ (f:Nat) (c:K) (n:N),(qbg f c).2 = some n->sz n + rest (qbg f c).1≤rest c
 | 0,_,_=>fun h=>by cases h
 | f + 1, c, n => fun h => by
   have ih:=qlu f
   have h0:=(qo c).2.1
   rw [qbg] at h ⊢
   split at h
   ·rename_i h1
    rw [if_pos h1]
    split at h
    ·rename_i h2
     rw [if_pos h2]
     obtain ⟨m,hm⟩:=Option.isSome_iff_exists.1 h2
     have h3:=qui ih hm
     split at h
     ·rename_i h4
      rw [if_pos h4]
      obtain ⟨q,hq,rfl⟩:=Option.map_eq_some_iff.1 h
      have h5:=ih _ _ hq
      have h6:=(qx (qbg f (qd (qbt (qbg f) (qa c).1).1 [45,62]).1).1).2.1
      have h7:rest (qd (qbt (qbg f) (qa c).1).1 [45,62]).1 + 1≤rest (qbt (qbg f) (qa c).1).1:=by
       unfold qd at h4 ⊢
       split at h4
       ·rename_i h8
        rw [if_pos h8]
        have:=qy (qda h8)
        simp only;omega
       ·cases h4
      have:sz (qkg ((qbt (qbg f) (qa c).1).2.getD N0) q) = sz m + sz q + 1:=by rw [qhv,hm];simp [qkg,N.kids,szs]
      simp only
      omega
     ·rename_i h4
      rw [if_neg h4]
      have h5:=(qx (qbt (qbg f) (qa c).1).1).2.1
      have h6:=qui ih h
      simp only
      omega
    ·cases h
   ·cases h
theorem q3y {f:Nat} {c:K} {n:N} (h:(qdi f c).2 = some n):sz n + rest (qdi f c).1≤rest c + 1:=by
 unfold qdi at h ⊢
 split at h
 ·rename_i h1
  rw [if_pos h1]
  obtain ⟨l,hl⟩:=Option.isSome_iff_exists.1 h1
  obtain ⟨q,hq,rfl⟩:=Option.map_eq_some_iff.1 h
  have h2:=qlu f _ _ hq
  rw [hl]
  have h3:szs l + rest (qq (qbg f) c).1≤rest c:=by
   have hx:=hl
   unfold qq at hx ⊢
   split at hx
   ·rename_i ha
    rw [if_pos ha]
    have h5:=qkl hx
    have h6:szs l + rest (qcn (qbg f) c).1≤rest c:=by
     unfold qcn at h5 ⊢
     have ht:=(qn c [40]).2.1
     split at h5
     ·rename_i hb
      rw [if_pos hb]
      cases h5
      simp only [szs];omega
     ·rename_i hb
      rw [if_neg hb]
      have:=qp0 (qlu f) _ _ _ _ _ h5
      simp only [szs] at this
      omega
    have h7:rest (qd6 (qd c [40]).2 (qcn (qbg f) c)).1≤rest (qcn (qbg f) c).1:=by
     unfold qd6
     split
     ·split
      ·split
       ·exact Nat.le_trans (qe _ _).2.1 (qe _ _).2.1
       ·exact (qe _ _).2.1
      ·exact (qe _ _).2.1
     ·exact Nat.le_refl _
    omega
   ·rename_i ha
    rw [if_neg ha]
    simp only at hx ⊢
    split at hx
    ·cases hx
    ·cases hx;simp only [szs];omega
  have:sz (qqx (qi c).pos l q) = szs l + sz q + 1:=by rw [qhv];simp [qqx,N.kids,qfs,szs]
  simp only [Option.getD_some]
  omega
 ·cases h
theorem qk1 {l:List T} (h:l.length≤1048577):(newK l).good:=⟨Nat.zero_le _,Nat.le_trans (qju l) h,Nat.zero_le _⟩

def q0i (c:K) (n:N):N×Int×Int :=
 if (qhg c).2 = 0 then if depR n > 100 then (N0,n.pos,2) else (n,0,0) else (N0,(qhg c).1,(qhg c).2)
def q3f (rd:K->K×Option N) (s:List UInt8):N×Int×Int :=
 if (lexV s).2.2 = 0 then q0i (rd (newK (lexV s).1)).1 ((rd (newK (lexV s).1)).2.getD N0)
 else (N0,(lexV s).2.1,(lexV s).2.2)
def resV (r:N×Int×Int):AV:=.tup [enc r.1,.int .i64 r.2.1,.int .i64 r.2.2]
attribute [go_sem] resV lexR
theorem qbf8 {c:K} (h:(qhg c).2 = 0):c.err = 0:=by
 by_cases he:c.err = 0
 ·exact he
 ·rw [qpu he] at h;exact absurd h he
theorem qkk (f:Nat) (c:K):Mon c (qdi f c).1:=by
 have hm:=qcg f
 unfold qdi
 split
 ·exact (qfe hm c).trans (hm _)
 ·exact qfe hm c
end Go.Proofs.Ytfjbmjplnmaclaa
